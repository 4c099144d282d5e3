/- What the functions that FnFirstStep reaches answer. -/
import Derived.Test.YthcggkagkihamaaGreatDoorFnsFnFirstStepp0
import Derived.Test.YthcggkagkihamaaGreatDoorEngZO
import Derived.Test.YthcggkagkihamaaGreatDoorChecked
set_option linter.unusedVariables false
set_option linter.unusedSimpArgs false
namespace Go.Eng
open Go Go.RowKit Go.Proofs
set_option maxHeartbeats 1000000
set_option maxRecDepth 10000
theorem qV (code:List Int)(i h:Int)(hc:code.length≤1048576)(hi0:0≤i)(hi1:i≤code.length):vS Tryz.prog 108 [.c (.ptr 0 0)] [.t none (.sl 1 u7 code),.t none (.v (.int .i64 i)),.t none (.v (.int .i64 h))] (fun(⟨b,hs,e,lv,rv,i2,h2⟩:w9 × w9 × Bool × Int × Int × Int × Int)=>R1 (b,hs,e,lv,rv)∧0≤i2∧i2≤code.length) (fun(⟨b,hs,e,lv,rv,i2,h2⟩:w9 × w9 × Bool × Int × Int × Int × Int)=>[.t none (.sl 1 u7 code),.t none (.v (.int .i64 i2)),.t none (.v (.int .i64 h2))]) (fun(⟨b,hs,e,lv,rv,i2,h2⟩:w9 × w9 × Bool × Int × Int × Int × Int)=>[(7,some (.row none 103 true 2 (y9 f9 (x9 1 f9)) b)),(8,some (.row none 103 true 2 (y9 f9 (x9 1 f9)) hs))]) 9 (fun(⟨b,hs,e,lv,rv,i2,h2⟩:w9 × w9 × Bool × Int × Int × Int × Int)=> .agg [.own 7,.own 8,.t none (.v (.bool e)),.t none (.v (.int .i64 lv)),.t none (.v (.int .i64 rv))]):=by
 refine D7 Tryz.func108 rfl (Nat.le_of_ble_eq_true rfl) fun v0 w S M hM=>?_
 refine t9 ?_
 refine d9 (F9 1 (zs:=[.slice none 0 0,.slice none 0 0,.bool false,.int .i64 0,.int .i64 0]) rfl rfl (by kernel_rfl) rfl) ?_
 refine P8<|rM ?_
 refine K8 (o9 0 2 9 (pv:=some v0) (H9 Tryz.func154) (PZ code i h (by omega) (by omega) (by omega)) rfl rfl (.cur rfl .nil) rfl (fun⟨_,_,_,_,_,_,_⟩=>rfl) (fun _=>rfl) (fun⟨_,_,_,_,_,_,_⟩=>rfl) rfl rfl) ?_
 rintro⟨⟨b1,hs2,e3,lv4,rv5,i26,h27⟩,hq8⟩
 try dsimp only at hq8
 try dsimp only
 obtain⟨q9,q10,q11⟩:=hq8
 have kd:R1 (b1,hs2,e3,lv4,rv5):=(by assumption);obtain⟨k1,k2,k3,k4,k5,k6⟩:=kd;(try dsimp only at k1 k2 k3 k4 k5 k6);have sa:=pU k3;have sb:=pU k4;have k7:∀z,b1[(0:Int).toNat]? =some z→1≤z.2.length:=fun z hz=>(k3 z (D8 hz)).2.1.1;have k8:hs2.length≤2:=(by assumption)
 refine d9 (F9 9 (zs:=[.slice none 0 0,.slice none 0 0,.bool false,.int .i64 0,.int .i64 0]) rfl rfl (by kernel_rfl) rfl) ?_
 refine rS 5<|c9<|k9<|t9 ?_
 refine rM ?_
 refine K8 (o9 0 10 11 (pv:=some v0) (H9 Tryz.func41) (r9 code i26 h27 12 (by omega) (by omega) (by omega) (by omega) (by omega)) rfl rfl (.cur rfl (.cons rfl .nil)) rfl (fun⟨_,_,_⟩=>rfl) (fun _=>rfl) (fun⟨_,_,_⟩=>rfl) rfl rfl) ?_
 rintro⟨⟨x12,i213,h214⟩,hq15⟩
 try dsimp only at hq15
 try dsimp only
 obtain⟨q16,q17⟩:=hq15
 refine c9<|p9<|t9<|rB ?_
 refine rA<|c9 ?_
 refine j9 rfl (fun h18=>?_) (fun h18=>?_)
 ·
  have h18':=a8 h18
  refine tD (fun i=>!(Nat.beq i 3||Nat.beq i 7)) ?_
  refine V8 0 rfl rfl (by kernel_rfl) (by kernel_rfl) (by kernel_rfl) (I7 (off:=0) (by kernel_rfl) rfl) ?_
  refine dT 2 rfl pM ?_
  refine G8 1 3 rfl rfl (by kernel_rfl) rfl rfl (N4 oL) (o9 0 11 12 (pv:=some v0) (H9 Tryz.func41) (r9 code i213 h214 7 (by omega) (by omega) (by omega) (by omega) (by omega)) rfl rfl (.cur rfl (.cons rfl .nil)) rfl (fun⟨_,_,_⟩=>rfl) (fun _=>rfl) (fun⟨_,_,_⟩=>rfl) rfl rfl) ?_ ?_
  ·
   rintro⟨⟩
   refine J0 3 rfl (o9 0 11 12 (pv:=some v0) (H9 Tryz.func41) (r9 code i213 h214 7 (by omega) (by omega) (by omega) (by omega) (by omega)) rfl rfl (.cur rfl (.cons rfl .nil)) rfl (fun⟨_,_,_⟩=>rfl) (fun _=>rfl) (fun⟨_,_,_⟩=>rfl) rfl rfl) ?_
   rintro⟨⟨x25,i226,h227⟩,hq28⟩
   try dsimp only at hq28
   try dsimp only
   obtain⟨q29,q30⟩:=hq28
   refine dT 4 rfl pB ?_
   obtain⟨z31,hz32,b33⟩:=v9 (xs:=b1) (n:=0) (by omega) (by omega)
   refine dT 5 rfl (V9 (by kernel_rfl) rfl rfl rfl b33 (f8 b33 hz32)) ?_
   refine dT 6 rfl (I4 (off:=0) (by kernel_rfl) rfl) ?_
   refine dO 7 rfl (F8 ((IntKind.i64.wrap (x25 - 1),z31.2)) (n:=1) (by kernel_rfl) rfl rfl hz32 rfl rfl rfl rfl (.cons .sc .nil) rfl (fun j h1 h2=>by(have:j=0∨j=1∨j=2∨j=3∨j=4:=by omega);rcases this with rfl | rfl | rfl | rfl | rfl <;> first | rfl | (simp at h2;done))) ?_
   refine dE ?_
   refine i9<|t9<|rC 5 ?_
   refine rS 5<|c9 ?_
   refine S8 Tryz.func108 (X9 5 .nil) (⟨b1.set ((0:Int)).toNat ((IntKind.i64.wrap (x25 - 1),z31.2)),hs2,e3,lv4,rv5,i226,h227⟩) ?_ ?_ (hL:=⟨rfl,⟨rfl,⟨rfl,trivial⟩⟩⟩)
   ·(try dsimp only) <;>((refine⟨⟨by(simp only [List.length_set];omega),k2,L8 k3 (by have e8:=k3 _ (D8 hz32);exact⟨by(try dsimp only);(try simp only [IntKind.wrap_i64] at *);omega,e8.2.1,e8.2.2⟩),k4,k5,k6⟩,by omega⟩;done))
   ·rfl
  ·
   rintro⟨⟨x19,i220,h221⟩,hq22⟩
   try dsimp only at hq22
   try dsimp only
   obtain⟨q23,q24⟩:=hq22
   refine dT 1 rfl pL ?_
   refine dT 4 rfl pB ?_
   obtain⟨z34,hz35,b36⟩:=v9 (xs:=b1) (n:=0) (by omega) (by omega)
   refine dT 5 rfl (V9 (by kernel_rfl) rfl rfl rfl b36 (f8 b36 hz35)) ?_
   refine dT 6 rfl (I4 (off:=0) (by kernel_rfl) rfl) ?_
   refine dO 7 rfl (F8 ((IntKind.i64.wrap (x19 - 1),z34.2)) (n:=1) (by kernel_rfl) rfl rfl hz35 rfl rfl rfl rfl (.cons .sc .nil) rfl (fun j h1 h2=>by(have:j=0∨j=1∨j=2∨j=3∨j=4:=by omega);rcases this with rfl | rfl | rfl | rfl | rfl <;> first | rfl | (simp at h2;done))) ?_
   refine dE ?_
   refine i9<|t9<|rC 5 ?_
   refine rS 5<|c9 ?_
   refine S8 Tryz.func108 (X9 5 .nil) (⟨b1.set ((0:Int)).toNat ((IntKind.i64.wrap (x19 - 1),z34.2)),hs2,e3,lv4,rv5,i220,h221⟩) ?_ ?_ (hL:=⟨rfl,⟨rfl,⟨rfl,trivial⟩⟩⟩)
   ·(try dsimp only) <;>((refine⟨⟨by(simp only [List.length_set];omega),k2,L8 k3 (by have e8:=k3 _ (D8 hz35);exact⟨by(try dsimp only);(try simp only [IntKind.wrap_i64] at *);omega,e8.2.1,e8.2.2⟩),k4,k5,k6⟩,by omega⟩;done))
   ·rfl
 ·
  have h18':=d8 h18
  refine t9<|rB ?_
  refine rA<|c9 ?_
  refine j9 rfl (fun h37=>?_) (fun h37=>?_)
  ·
   have h37':=a8 h37
   obtain⟨z38,hz39,b40⟩:=v9 (xs:=b1) (n:=(0:Int)) (by omega) (by omega)
   refine eK 11 7 ((0:Int)).toNat 1 rfl rfl hz39 rfl rfl fun e41 v42=>?_
   refine tD (fun i=>!(Nat.beq i 7||Nat.beq i 9)) ?_
   refine V8 0 rfl rfl (by kernel_rfl) (by kernel_rfl) (by kernel_rfl) (I7 (off:=0) (by kernel_rfl) rfl) ?_
   refine dT 5 rfl pM ?_
   refine H8 1 6 rfl rfl (by kernel_rfl) rfl rfl oL (m7 12 (e:=3) (sz:=1) (zs:=[.int .i64 0]) (enc:=f9) [5, -11,4] rfl rfl (by kernel_rfl) rfl rfl rfl rfl rfl rfl rfl rfl (.cons .sc (.cons .sc (.cons .sc .nil))) rfl) ?_ ?_
   ·
    obtain⟨z43,hz44,b45⟩:=v9 (xs:=A0 b1 (((0:Int)).toNat) z38 1 v42) (n:=0) (by omega) (by(rw [F3];omega))
    refine H8 2 6 rfl rfl (by kernel_rfl) rfl rfl (o8 rfl (by kernel_rfl) rfl rfl rfl b45 (f8 b45 hz44)) (m7 12 (e:=3) (sz:=1) (zs:=[.int .i64 0]) (enc:=f9) [5, -11,4] rfl rfl (by kernel_rfl) rfl rfl rfl rfl rfl rfl rfl rfl (.cons .sc (.cons .sc (.cons .sc .nil))) rfl) ?_ ?_
    ·
     refine H8 3 6 rfl rfl (by kernel_rfl) rfl rfl (nV rfl (off:=1) (by kernel_rfl) rfl) (m7 12 (e:=3) (sz:=1) (zs:=[.int .i64 0]) (enc:=f9) [5, -11,4] rfl rfl (by kernel_rfl) rfl rfl rfl rfl rfl rfl rfl rfl (.cons .sc (.cons .sc (.cons .sc .nil))) rfl) ?_ ?_
     ·
      refine H8 4 6 rfl rfl (by kernel_rfl) rfl rfl (aV rfl (k:=11) (by kernel_rfl) rfl rfl rfl (by omega) rfl) (m7 12 (e:=3) (sz:=1) (zs:=[.int .i64 0]) (enc:=f9) [5, -11,4] rfl rfl (by kernel_rfl) rfl rfl rfl rfl rfl rfl rfl rfl (.cons .sc (.cons .sc (.cons .sc .nil))) rfl) ?_ ?_
      ·
       refine dO 6 rfl (m7 12 (e:=3) (sz:=1) (zs:=[.int .i64 0]) (enc:=f9) [5, -11,4] rfl rfl (by kernel_rfl) rfl rfl rfl rfl rfl rfl rfl rfl (.cons .sc (.cons .sc (.cons .sc .nil))) rfl) ?_
       refine W7 12 rfl (c8 (i:=12) hM rfl rfl rfl) ?_
       refine J0 7 rfl (o9 0 13 14 (pv:=some v0) (H9 Tryz.func155) (l8 code i213 h214 ([5, -11,4]) (by omega) (by omega) (by omega) (by(simp only [List.length_cons,List.length_nil];omega)) (by(simp only [List.length_cons,List.length_nil];omega))) rfl rfl (.cur rfl (.cons rfl .nil)) rfl (fun⟨_,_,_⟩=>rfl) (fun _=>rfl) (fun⟨_,_,_⟩=>rfl) rfl rfl) ?_
       rintro⟨⟨x46,i247,h248⟩,hq49⟩
       try dsimp only at hq49
       try dsimp only
       obtain⟨q50,q51⟩:=hq49
       obtain⟨z52,hz53,b54⟩:=v9 (xs:=z38.2) (n:=0) (by omega) (by(have e7:=k7 _ (by assumption);omega))
       refine dT 8 rfl (V9 (by kernel_rfl) rfl rfl rfl b54 (f8 b54 hz53)) ?_
       refine dO 9 rfl (F8 x46 (n:=1) (by kernel_rfl) rfl rfl hz53 rfl rfl rfl rfl (.cons .sc .nil) rfl (fun j h1 h2=>by(simp at h1 h2;omega))) ?_
       refine dE ?_
       refine i9<|k9 ?_
       refine R5 11 7 (((0:Int)).toNat) 1 ((z38.1,z38.2.set ((0:Int)).toNat x46)) rfl rfl rfl (List.getElem?_eq_some_iff.1 hz39).1 rfl (fun j hj=>by(have:j=0∨j=1:=by omega);rcases this with rfl | rfl <;> rfl) ?_
       refine l9<|rC 5 ?_
       refine rS 5<|c9 ?_
       refine S8 Tryz.func108 (X9 5 .nil) (⟨b1.set (((0:Int)).toNat) ((z38.1,z38.2.set ((0:Int)).toNat x46)),hs2,e3,lv4,rv5,i247,h248⟩) ?_ ?_ (hL:=⟨rfl,⟨rfl,⟨rfl,trivial⟩⟩⟩)
       ·(try dsimp only) <;>((refine⟨⟨by(simp only [List.length_set];omega),k2,L8 k3 (by have e8:=k3 _ (D8 hz39);exact⟨e8.1,by(simp only [List.length_set];exact e8.2.1),L8 e8.2.2 (by have e9:=bZ (by assumption);omega)⟩),k4,k5,k6⟩,by omega⟩;done))
       ·rfl
      ·
       refine W7 12 rfl (c8 (i:=12) hM rfl rfl rfl) ?_
       refine G8 4 7 rfl rfl (by kernel_rfl) rfl rfl (N4 (aV rfl (k:=11) (by kernel_rfl) rfl rfl rfl (by omega) rfl)) (o9 0 13 14 (pv:=some v0) (H9 Tryz.func155) (l8 code i213 h214 ([5, -11,4]) (by omega) (by omega) (by omega) (by(simp only [List.length_cons,List.length_nil];omega)) (by(simp only [List.length_cons,List.length_nil];omega))) rfl rfl (.cur rfl (.cons rfl .nil)) rfl (fun⟨_,_,_⟩=>rfl) (fun _=>rfl) (fun⟨_,_,_⟩=>rfl) rfl rfl) ?_ ?_
       ·
        rintro⟨⟩
        refine J0 7 rfl (o9 0 13 14 (pv:=some v0) (H9 Tryz.func155) (l8 code i213 h214 ([5, -11,4]) (by omega) (by omega) (by omega) (by(simp only [List.length_cons,List.length_nil];omega)) (by(simp only [List.length_cons,List.length_nil];omega))) rfl rfl (.cur rfl (.cons rfl .nil)) rfl (fun⟨_,_,_⟩=>rfl) (fun _=>rfl) (fun⟨_,_,_⟩=>rfl) rfl rfl) ?_
        rintro⟨⟨x61,i262,h263⟩,hq64⟩
        try dsimp only at hq64
        try dsimp only
        obtain⟨q65,q66⟩:=hq64
        obtain⟨z67,hz68,b69⟩:=v9 (xs:=z38.2) (n:=0) (by omega) (by(have e7:=k7 _ (by assumption);omega))
        refine dT 8 rfl (V9 (by kernel_rfl) rfl rfl rfl b69 (f8 b69 hz68)) ?_
        refine dO 9 rfl (F8 x61 (n:=1) (by kernel_rfl) rfl rfl hz68 rfl rfl rfl rfl (.cons .sc .nil) rfl (fun j h1 h2=>by(simp at h1 h2;omega))) ?_
        refine dE ?_
        refine i9<|k9 ?_
        refine R5 11 7 (((0:Int)).toNat) 1 ((z38.1,z38.2.set ((0:Int)).toNat x61)) rfl rfl rfl (List.getElem?_eq_some_iff.1 hz39).1 rfl (fun j hj=>by(have:j=0∨j=1:=by omega);rcases this with rfl | rfl <;> rfl) ?_
        refine l9<|rC 5 ?_
        refine rS 5<|c9 ?_
        refine S8 Tryz.func108 (X9 5 .nil) (⟨b1.set (((0:Int)).toNat) ((z38.1,z38.2.set ((0:Int)).toNat x61)),hs2,e3,lv4,rv5,i262,h263⟩) ?_ ?_ (hL:=⟨rfl,⟨rfl,⟨rfl,trivial⟩⟩⟩)
        ·(try dsimp only) <;>((refine⟨⟨by(simp only [List.length_set];omega),k2,L8 k3 (by have e8:=k3 _ (D8 hz39);exact⟨e8.1,by(simp only [List.length_set];exact e8.2.1),L8 e8.2.2 (by have e9:=bZ (by assumption);omega)⟩),k4,k5,k6⟩,by omega⟩;done))
        ·rfl
       ·
        rintro⟨⟨x55,i256,h257⟩,hq58⟩
        try dsimp only at hq58
        try dsimp only
        obtain⟨q59,q60⟩:=hq58
        refine dT 4 rfl (T3 (k:=11) (by kernel_rfl) rfl rfl rfl (by omega) rfl) ?_
        obtain⟨z70,hz71,b72⟩:=v9 (xs:=z38.2) (n:=0) (by omega) (by(have e7:=k7 _ (by assumption);omega))
        refine dT 8 rfl (V9 (by kernel_rfl) rfl rfl rfl b72 (f8 b72 hz71)) ?_
        refine dO 9 rfl (F8 x55 (n:=1) (by kernel_rfl) rfl rfl hz71 rfl rfl rfl rfl (.cons .sc .nil) rfl (fun j h1 h2=>by(simp at h1 h2;omega))) ?_
        refine dE ?_
        refine i9<|k9 ?_
        refine R5 11 7 (((0:Int)).toNat) 1 ((z38.1,z38.2.set ((0:Int)).toNat x55)) rfl rfl rfl (List.getElem?_eq_some_iff.1 hz39).1 rfl (fun j hj=>by(have:j=0∨j=1:=by omega);rcases this with rfl | rfl <;> rfl) ?_
        refine l9<|rC 5 ?_
        refine rS 5<|c9 ?_
        refine S8 Tryz.func108 (X9 5 .nil) (⟨b1.set (((0:Int)).toNat) ((z38.1,z38.2.set ((0:Int)).toNat x55)),hs2,e3,lv4,rv5,i256,h257⟩) ?_ ?_ (hL:=⟨rfl,⟨rfl,⟨rfl,trivial⟩⟩⟩)
        ·(try dsimp only) <;>((refine⟨⟨by(simp only [List.length_set];omega),k2,L8 k3 (by have e8:=k3 _ (D8 hz39);exact⟨e8.1,by(simp only [List.length_set];exact e8.2.1),L8 e8.2.2 (by have e9:=bZ (by assumption);omega)⟩),k4,k5,k6⟩,by omega⟩;done))
        ·rfl
     ·
      refine W7 12 rfl (c8 (i:=12) hM rfl rfl rfl) ?_
      refine G8 3 7 rfl rfl (by kernel_rfl) rfl rfl (N4 (nV rfl (off:=1) (by kernel_rfl) rfl)) (o9 0 13 14 (pv:=some v0) (H9 Tryz.func155) (l8 code i213 h214 ([5, -11,4]) (by omega) (by omega) (by omega) (by(simp only [List.length_cons,List.length_nil];omega)) (by(simp only [List.length_cons,List.length_nil];omega))) rfl rfl (.cur rfl (.cons rfl .nil)) rfl (fun⟨_,_,_⟩=>rfl) (fun _=>rfl) (fun⟨_,_,_⟩=>rfl) rfl rfl) ?_ ?_
      ·
       rintro⟨⟩
       refine G8 4 7 rfl rfl (by kernel_rfl) rfl rfl (N4 (aV rfl (k:=11) (by kernel_rfl) rfl rfl rfl (by omega) rfl)) (o9 0 13 14 (pv:=some v0) (H9 Tryz.func155) (l8 code i213 h214 ([5, -11,4]) (by omega) (by omega) (by omega) (by(simp only [List.length_cons,List.length_nil];omega)) (by(simp only [List.length_cons,List.length_nil];omega))) rfl rfl (.cur rfl (.cons rfl .nil)) rfl (fun⟨_,_,_⟩=>rfl) (fun _=>rfl) (fun⟨_,_,_⟩=>rfl) rfl rfl) ?_ ?_
       ·
        rintro⟨⟩
        refine J0 7 rfl (o9 0 13 14 (pv:=some v0) (H9 Tryz.func155) (l8 code i213 h214 ([5, -11,4]) (by omega) (by omega) (by omega) (by(simp only [List.length_cons,List.length_nil];omega)) (by(simp only [List.length_cons,List.length_nil];omega))) rfl rfl (.cur rfl (.cons rfl .nil)) rfl (fun⟨_,_,_⟩=>rfl) (fun _=>rfl) (fun⟨_,_,_⟩=>rfl) rfl rfl) ?_
        rintro⟨⟨x85,i286,h287⟩,hq88⟩
        try dsimp only at hq88
        try dsimp only
        obtain⟨q89,q90⟩:=hq88
        obtain⟨z91,hz92,b93⟩:=v9 (xs:=z38.2) (n:=0) (by omega) (by(have e7:=k7 _ (by assumption);omega))
        refine dT 8 rfl (V9 (by kernel_rfl) rfl rfl rfl b93 (f8 b93 hz92)) ?_
        refine dO 9 rfl (F8 x85 (n:=1) (by kernel_rfl) rfl rfl hz92 rfl rfl rfl rfl (.cons .sc .nil) rfl (fun j h1 h2=>by(simp at h1 h2;omega))) ?_
        refine dE ?_
        refine i9<|k9 ?_
        refine R5 11 7 (((0:Int)).toNat) 1 ((z38.1,z38.2.set ((0:Int)).toNat x85)) rfl rfl rfl (List.getElem?_eq_some_iff.1 hz39).1 rfl (fun j hj=>by(have:j=0∨j=1:=by omega);rcases this with rfl | rfl <;> rfl) ?_
        refine l9<|rC 5 ?_
        refine rS 5<|c9 ?_
        refine S8 Tryz.func108 (X9 5 .nil) (⟨b1.set (((0:Int)).toNat) ((z38.1,z38.2.set ((0:Int)).toNat x85)),hs2,e3,lv4,rv5,i286,h287⟩) ?_ ?_ (hL:=⟨rfl,⟨rfl,⟨rfl,trivial⟩⟩⟩)
        ·(try dsimp only) <;>((refine⟨⟨by(simp only [List.length_set];omega),k2,L8 k3 (by have e8:=k3 _ (D8 hz39);exact⟨e8.1,by(simp only [List.length_set];exact e8.2.1),L8 e8.2.2 (by have e9:=bZ (by assumption);omega)⟩),k4,k5,k6⟩,by omega⟩;done))
        ·rfl
       ·
        rintro⟨⟨x79,i280,h281⟩,hq82⟩
        try dsimp only at hq82
        try dsimp only
        obtain⟨q83,q84⟩:=hq82
        refine dT 4 rfl (T3 (k:=11) (by kernel_rfl) rfl rfl rfl (by omega) rfl) ?_
        obtain⟨z94,hz95,b96⟩:=v9 (xs:=z38.2) (n:=0) (by omega) (by(have e7:=k7 _ (by assumption);omega))
        refine dT 8 rfl (V9 (by kernel_rfl) rfl rfl rfl b96 (f8 b96 hz95)) ?_
        refine dO 9 rfl (F8 x79 (n:=1) (by kernel_rfl) rfl rfl hz95 rfl rfl rfl rfl (.cons .sc .nil) rfl (fun j h1 h2=>by(simp at h1 h2;omega))) ?_
        refine dE ?_
        refine i9<|k9 ?_
        refine R5 11 7 (((0:Int)).toNat) 1 ((z38.1,z38.2.set ((0:Int)).toNat x79)) rfl rfl rfl (List.getElem?_eq_some_iff.1 hz39).1 rfl (fun j hj=>by(have:j=0∨j=1:=by omega);rcases this with rfl | rfl <;> rfl) ?_
        refine l9<|rC 5 ?_
        refine rS 5<|c9 ?_
        refine S8 Tryz.func108 (X9 5 .nil) (⟨b1.set (((0:Int)).toNat) ((z38.1,z38.2.set ((0:Int)).toNat x79)),hs2,e3,lv4,rv5,i280,h281⟩) ?_ ?_ (hL:=⟨rfl,⟨rfl,⟨rfl,trivial⟩⟩⟩)
        ·(try dsimp only) <;>((refine⟨⟨by(simp only [List.length_set];omega),k2,L8 k3 (by have e8:=k3 _ (D8 hz39);exact⟨e8.1,by(simp only [List.length_set];exact e8.2.1),L8 e8.2.2 (by have e9:=bZ (by assumption);omega)⟩),k4,k5,k6⟩,by omega⟩;done))
        ·rfl
      ·
       rintro⟨⟨x73,i274,h275⟩,hq76⟩
       try dsimp only at hq76
       try dsimp only
       obtain⟨q77,q78⟩:=hq76
       refine dT 3 rfl (I4 (off:=1) (by kernel_rfl) rfl) ?_
       refine dT 4 rfl (T3 (k:=11) (by kernel_rfl) rfl rfl rfl (by omega) rfl) ?_
       obtain⟨z97,hz98,b99⟩:=v9 (xs:=z38.2) (n:=0) (by omega) (by(have e7:=k7 _ (by assumption);omega))
       refine dT 8 rfl (V9 (by kernel_rfl) rfl rfl rfl b99 (f8 b99 hz98)) ?_
       refine dO 9 rfl (F8 x73 (n:=1) (by kernel_rfl) rfl rfl hz98 rfl rfl rfl rfl (.cons .sc .nil) rfl (fun j h1 h2=>by(simp at h1 h2;omega))) ?_
       refine dE ?_
       refine i9<|k9 ?_
       refine R5 11 7 (((0:Int)).toNat) 1 ((z38.1,z38.2.set ((0:Int)).toNat x73)) rfl rfl rfl (List.getElem?_eq_some_iff.1 hz39).1 rfl (fun j hj=>by(have:j=0∨j=1:=by omega);rcases this with rfl | rfl <;> rfl) ?_
       refine l9<|rC 5 ?_
       refine rS 5<|c9 ?_
       refine S8 Tryz.func108 (X9 5 .nil) (⟨b1.set (((0:Int)).toNat) ((z38.1,z38.2.set ((0:Int)).toNat x73)),hs2,e3,lv4,rv5,i274,h275⟩) ?_ ?_ (hL:=⟨rfl,⟨rfl,⟨rfl,trivial⟩⟩⟩)
       ·(try dsimp only) <;>((refine⟨⟨by(simp only [List.length_set];omega),k2,L8 k3 (by have e8:=k3 _ (D8 hz39);exact⟨e8.1,by(simp only [List.length_set];exact e8.2.1),L8 e8.2.2 (by have e9:=bZ (by assumption);omega)⟩),k4,k5,k6⟩,by omega⟩;done))
       ·rfl
    ·
     refine W7 12 rfl (c8 (i:=12) hM rfl rfl rfl) ?_
     obtain⟨z100,hz101,b102⟩:=v9 (xs:=A0 b1 (((0:Int)).toNat) z38 1 v42) (n:=0) (by omega) (by(rw [F3];omega))
     refine G8 2 7 rfl rfl (by kernel_rfl) rfl rfl (N4 (o8 rfl (by kernel_rfl) rfl rfl rfl b102 (f8 b102 hz101))) (o9 0 13 14 (pv:=some v0) (H9 Tryz.func155) (l8 code i213 h214 ([5, -11,4]) (by omega) (by omega) (by omega) (by(simp only [List.length_cons,List.length_nil];omega)) (by(simp only [List.length_cons,List.length_nil];omega))) rfl rfl (.cur rfl (.cons rfl .nil)) rfl (fun⟨_,_,_⟩=>rfl) (fun _=>rfl) (fun⟨_,_,_⟩=>rfl) rfl rfl) ?_ ?_
     ·
      rintro⟨⟩
      refine G8 3 7 rfl rfl (by kernel_rfl) rfl rfl (N4 (nV rfl (off:=1) (by kernel_rfl) rfl)) (o9 0 13 14 (pv:=some v0) (H9 Tryz.func155) (l8 code i213 h214 ([5, -11,4]) (by omega) (by omega) (by omega) (by(simp only [List.length_cons,List.length_nil];omega)) (by(simp only [List.length_cons,List.length_nil];omega))) rfl rfl (.cur rfl (.cons rfl .nil)) rfl (fun⟨_,_,_⟩=>rfl) (fun _=>rfl) (fun⟨_,_,_⟩=>rfl) rfl rfl) ?_ ?_
      ·
       rintro⟨⟩
       refine G8 4 7 rfl rfl (by kernel_rfl) rfl rfl (N4 (aV rfl (k:=11) (by kernel_rfl) rfl rfl rfl (by omega) rfl)) (o9 0 13 14 (pv:=some v0) (H9 Tryz.func155) (l8 code i213 h214 ([5, -11,4]) (by omega) (by omega) (by omega) (by(simp only [List.length_cons,List.length_nil];omega)) (by(simp only [List.length_cons,List.length_nil];omega))) rfl rfl (.cur rfl (.cons rfl .nil)) rfl (fun⟨_,_,_⟩=>rfl) (fun _=>rfl) (fun⟨_,_,_⟩=>rfl) rfl rfl) ?_ ?_
       ·
        rintro⟨⟩
        refine J0 7 rfl (o9 0 13 14 (pv:=some v0) (H9 Tryz.func155) (l8 code i213 h214 ([5, -11,4]) (by omega) (by omega) (by omega) (by(simp only [List.length_cons,List.length_nil];omega)) (by(simp only [List.length_cons,List.length_nil];omega))) rfl rfl (.cur rfl (.cons rfl .nil)) rfl (fun⟨_,_,_⟩=>rfl) (fun _=>rfl) (fun⟨_,_,_⟩=>rfl) rfl rfl) ?_
        rintro⟨⟨x121,i2122,h2123⟩,hq124⟩
        try dsimp only at hq124
        try dsimp only
        obtain⟨q125,q126⟩:=hq124
        obtain⟨z127,hz128,b129⟩:=v9 (xs:=z38.2) (n:=0) (by omega) (by(have e7:=k7 _ (by assumption);omega))
        refine dT 8 rfl (V9 (by kernel_rfl) rfl rfl rfl b129 (f8 b129 hz128)) ?_
        refine dO 9 rfl (F8 x121 (n:=1) (by kernel_rfl) rfl rfl hz128 rfl rfl rfl rfl (.cons .sc .nil) rfl (fun j h1 h2=>by(simp at h1 h2;omega))) ?_
        refine dE ?_
        refine i9<|k9 ?_
        refine R5 11 7 (((0:Int)).toNat) 1 ((z38.1,z38.2.set ((0:Int)).toNat x121)) rfl rfl rfl (List.getElem?_eq_some_iff.1 hz39).1 rfl (fun j hj=>by(have:j=0∨j=1:=by omega);rcases this with rfl | rfl <;> rfl) ?_
        refine l9<|rC 5 ?_
        refine rS 5<|c9 ?_
        refine S8 Tryz.func108 (X9 5 .nil) (⟨b1.set (((0:Int)).toNat) ((z38.1,z38.2.set ((0:Int)).toNat x121)),hs2,e3,lv4,rv5,i2122,h2123⟩) ?_ ?_ (hL:=⟨rfl,⟨rfl,⟨rfl,trivial⟩⟩⟩)
        ·(try dsimp only) <;>((refine⟨⟨by(simp only [List.length_set];omega),k2,L8 k3 (by have e8:=k3 _ (D8 hz39);exact⟨e8.1,by(simp only [List.length_set];exact e8.2.1),L8 e8.2.2 (by have e9:=bZ (by assumption);omega)⟩),k4,k5,k6⟩,by omega⟩;done))
        ·rfl
       ·
        rintro⟨⟨x115,i2116,h2117⟩,hq118⟩
        try dsimp only at hq118
        try dsimp only
        obtain⟨q119,q120⟩:=hq118
        refine dT 4 rfl (T3 (k:=11) (by kernel_rfl) rfl rfl rfl (by omega) rfl) ?_
        obtain⟨z130,hz131,b132⟩:=v9 (xs:=z38.2) (n:=0) (by omega) (by(have e7:=k7 _ (by assumption);omega))
        refine dT 8 rfl (V9 (by kernel_rfl) rfl rfl rfl b132 (f8 b132 hz131)) ?_
        refine dO 9 rfl (F8 x115 (n:=1) (by kernel_rfl) rfl rfl hz131 rfl rfl rfl rfl (.cons .sc .nil) rfl (fun j h1 h2=>by(simp at h1 h2;omega))) ?_
        refine dE ?_
        refine i9<|k9 ?_
        refine R5 11 7 (((0:Int)).toNat) 1 ((z38.1,z38.2.set ((0:Int)).toNat x115)) rfl rfl rfl (List.getElem?_eq_some_iff.1 hz39).1 rfl (fun j hj=>by(have:j=0∨j=1:=by omega);rcases this with rfl | rfl <;> rfl) ?_
        refine l9<|rC 5 ?_
        refine rS 5<|c9 ?_
        refine S8 Tryz.func108 (X9 5 .nil) (⟨b1.set (((0:Int)).toNat) ((z38.1,z38.2.set ((0:Int)).toNat x115)),hs2,e3,lv4,rv5,i2116,h2117⟩) ?_ ?_ (hL:=⟨rfl,⟨rfl,⟨rfl,trivial⟩⟩⟩)
        ·(try dsimp only) <;>((refine⟨⟨by(simp only [List.length_set];omega),k2,L8 k3 (by have e8:=k3 _ (D8 hz39);exact⟨e8.1,by(simp only [List.length_set];exact e8.2.1),L8 e8.2.2 (by have e9:=bZ (by assumption);omega)⟩),k4,k5,k6⟩,by omega⟩;done))
        ·rfl
      ·
       rintro⟨⟨x109,i2110,h2111⟩,hq112⟩
       try dsimp only at hq112
       try dsimp only
       obtain⟨q113,q114⟩:=hq112
       refine dT 3 rfl (I4 (off:=1) (by kernel_rfl) rfl) ?_
       refine dT 4 rfl (T3 (k:=11) (by kernel_rfl) rfl rfl rfl (by omega) rfl) ?_
       obtain⟨z133,hz134,b135⟩:=v9 (xs:=z38.2) (n:=0) (by omega) (by(have e7:=k7 _ (by assumption);omega))
       refine dT 8 rfl (V9 (by kernel_rfl) rfl rfl rfl b135 (f8 b135 hz134)) ?_
       refine dO 9 rfl (F8 x109 (n:=1) (by kernel_rfl) rfl rfl hz134 rfl rfl rfl rfl (.cons .sc .nil) rfl (fun j h1 h2=>by(simp at h1 h2;omega))) ?_
       refine dE ?_
       refine i9<|k9 ?_
       refine R5 11 7 (((0:Int)).toNat) 1 ((z38.1,z38.2.set ((0:Int)).toNat x109)) rfl rfl rfl (List.getElem?_eq_some_iff.1 hz39).1 rfl (fun j hj=>by(have:j=0∨j=1:=by omega);rcases this with rfl | rfl <;> rfl) ?_
       refine l9<|rC 5 ?_
       refine rS 5<|c9 ?_
       refine S8 Tryz.func108 (X9 5 .nil) (⟨b1.set (((0:Int)).toNat) ((z38.1,z38.2.set ((0:Int)).toNat x109)),hs2,e3,lv4,rv5,i2110,h2111⟩) ?_ ?_ (hL:=⟨rfl,⟨rfl,⟨rfl,trivial⟩⟩⟩)
       ·(try dsimp only) <;>((refine⟨⟨by(simp only [List.length_set];omega),k2,L8 k3 (by have e8:=k3 _ (D8 hz39);exact⟨e8.1,by(simp only [List.length_set];exact e8.2.1),L8 e8.2.2 (by have e9:=bZ (by assumption);omega)⟩),k4,k5,k6⟩,by omega⟩;done))
       ·rfl
     ·
      rintro⟨⟨x103,i2104,h2105⟩,hq106⟩
      try dsimp only at hq106
      try dsimp only
      obtain⟨q107,q108⟩:=hq106
      obtain⟨z136,hz137,b138⟩:=v9 (xs:=A0 b1 (((0:Int)).toNat) z38 1 v42) (n:=0) (by omega) (by(rw [F3];omega))
      refine dT 2 rfl (V9 (by kernel_rfl) rfl rfl rfl b138 (f8 b138 hz137)) ?_
      refine dT 3 rfl (I4 (off:=1) (by kernel_rfl) rfl) ?_
      refine dT 4 rfl (T3 (k:=11) (by kernel_rfl) rfl rfl rfl (by omega) rfl) ?_
      obtain⟨z139,hz140,b141⟩:=v9 (xs:=z38.2) (n:=0) (by omega) (by(have e7:=k7 _ (by assumption);omega))
      refine dT 8 rfl (V9 (by kernel_rfl) rfl rfl rfl b141 (f8 b141 hz140)) ?_
      refine dO 9 rfl (F8 x103 (n:=1) (by kernel_rfl) rfl rfl hz140 rfl rfl rfl rfl (.cons .sc .nil) rfl (fun j h1 h2=>by(simp at h1 h2;omega))) ?_
      refine dE ?_
      refine i9<|k9 ?_
      refine R5 11 7 (((0:Int)).toNat) 1 ((z38.1,z38.2.set ((0:Int)).toNat x103)) rfl rfl rfl (List.getElem?_eq_some_iff.1 hz39).1 rfl (fun j hj=>by(have:j=0∨j=1:=by omega);rcases this with rfl | rfl <;> rfl) ?_
      refine l9<|rC 5 ?_
      refine rS 5<|c9 ?_
      refine S8 Tryz.func108 (X9 5 .nil) (⟨b1.set (((0:Int)).toNat) ((z38.1,z38.2.set ((0:Int)).toNat x103)),hs2,e3,lv4,rv5,i2104,h2105⟩) ?_ ?_ (hL:=⟨rfl,⟨rfl,⟨rfl,trivial⟩⟩⟩)
      ·(try dsimp only) <;>((refine⟨⟨by(simp only [List.length_set];omega),k2,L8 k3 (by have e8:=k3 _ (D8 hz39);exact⟨e8.1,by(simp only [List.length_set];exact e8.2.1),L8 e8.2.2 (by have e9:=bZ (by assumption);omega)⟩),k4,k5,k6⟩,by omega⟩;done))
      ·rfl
   ·
    refine W7 12 rfl (c8 (i:=12) hM rfl rfl rfl) ?_
    refine G8 1 7 rfl rfl (by kernel_rfl) rfl rfl (N4 oL) (o9 0 13 14 (pv:=some v0) (H9 Tryz.func155) (l8 code i213 h214 ([5, -11,4]) (by omega) (by omega) (by omega) (by(simp only [List.length_cons,List.length_nil];omega)) (by(simp only [List.length_cons,List.length_nil];omega))) rfl rfl (.cur rfl (.cons rfl .nil)) rfl (fun⟨_,_,_⟩=>rfl) (fun _=>rfl) (fun⟨_,_,_⟩=>rfl) rfl rfl) ?_ ?_
    ·
     rintro⟨⟩
     obtain⟨z148,hz149,b150⟩:=v9 (xs:=A0 b1 (((0:Int)).toNat) z38 1 v42) (n:=0) (by omega) (by(rw [F3];omega))
     refine G8 2 7 rfl rfl (by kernel_rfl) rfl rfl (N4 (o8 rfl (by kernel_rfl) rfl rfl rfl b150 (f8 b150 hz149))) (o9 0 13 14 (pv:=some v0) (H9 Tryz.func155) (l8 code i213 h214 ([5, -11,4]) (by omega) (by omega) (by omega) (by(simp only [List.length_cons,List.length_nil];omega)) (by(simp only [List.length_cons,List.length_nil];omega))) rfl rfl (.cur rfl (.cons rfl .nil)) rfl (fun⟨_,_,_⟩=>rfl) (fun _=>rfl) (fun⟨_,_,_⟩=>rfl) rfl rfl) ?_ ?_
     ·
      rintro⟨⟩
      refine G8 3 7 rfl rfl (by kernel_rfl) rfl rfl (N4 (nV rfl (off:=1) (by kernel_rfl) rfl)) (o9 0 13 14 (pv:=some v0) (H9 Tryz.func155) (l8 code i213 h214 ([5, -11,4]) (by omega) (by omega) (by omega) (by(simp only [List.length_cons,List.length_nil];omega)) (by(simp only [List.length_cons,List.length_nil];omega))) rfl rfl (.cur rfl (.cons rfl .nil)) rfl (fun⟨_,_,_⟩=>rfl) (fun _=>rfl) (fun⟨_,_,_⟩=>rfl) rfl rfl) ?_ ?_
      ·
       rintro⟨⟩
       refine G8 4 7 rfl rfl (by kernel_rfl) rfl rfl (N4 (aV rfl (k:=11) (by kernel_rfl) rfl rfl rfl (by omega) rfl)) (o9 0 13 14 (pv:=some v0) (H9 Tryz.func155) (l8 code i213 h214 ([5, -11,4]) (by omega) (by omega) (by omega) (by(simp only [List.length_cons,List.length_nil];omega)) (by(simp only [List.length_cons,List.length_nil];omega))) rfl rfl (.cur rfl (.cons rfl .nil)) rfl (fun⟨_,_,_⟩=>rfl) (fun _=>rfl) (fun⟨_,_,_⟩=>rfl) rfl rfl) ?_ ?_
       ·
        rintro⟨⟩
        refine J0 7 rfl (o9 0 13 14 (pv:=some v0) (H9 Tryz.func155) (l8 code i213 h214 ([5, -11,4]) (by omega) (by omega) (by omega) (by(simp only [List.length_cons,List.length_nil];omega)) (by(simp only [List.length_cons,List.length_nil];omega))) rfl rfl (.cur rfl (.cons rfl .nil)) rfl (fun⟨_,_,_⟩=>rfl) (fun _=>rfl) (fun⟨_,_,_⟩=>rfl) rfl rfl) ?_
        rintro⟨⟨x169,i2170,h2171⟩,hq172⟩
        try dsimp only at hq172
        try dsimp only
        obtain⟨q173,q174⟩:=hq172
        obtain⟨z175,hz176,b177⟩:=v9 (xs:=z38.2) (n:=0) (by omega) (by(have e7:=k7 _ (by assumption);omega))
        refine dT 8 rfl (V9 (by kernel_rfl) rfl rfl rfl b177 (f8 b177 hz176)) ?_
        refine dO 9 rfl (F8 x169 (n:=1) (by kernel_rfl) rfl rfl hz176 rfl rfl rfl rfl (.cons .sc .nil) rfl (fun j h1 h2=>by(simp at h1 h2;omega))) ?_
        refine dE ?_
        refine i9<|k9 ?_
        refine R5 11 7 (((0:Int)).toNat) 1 ((z38.1,z38.2.set ((0:Int)).toNat x169)) rfl rfl rfl (List.getElem?_eq_some_iff.1 hz39).1 rfl (fun j hj=>by(have:j=0∨j=1:=by omega);rcases this with rfl | rfl <;> rfl) ?_
        refine l9<|rC 5 ?_
        refine rS 5<|c9 ?_
        refine S8 Tryz.func108 (X9 5 .nil) (⟨b1.set (((0:Int)).toNat) ((z38.1,z38.2.set ((0:Int)).toNat x169)),hs2,e3,lv4,rv5,i2170,h2171⟩) ?_ ?_ (hL:=⟨rfl,⟨rfl,⟨rfl,trivial⟩⟩⟩)
        ·(try dsimp only) <;>((refine⟨⟨by(simp only [List.length_set];omega),k2,L8 k3 (by have e8:=k3 _ (D8 hz39);exact⟨e8.1,by(simp only [List.length_set];exact e8.2.1),L8 e8.2.2 (by have e9:=bZ (by assumption);omega)⟩),k4,k5,k6⟩,by omega⟩;done))
        ·rfl
       ·
        rintro⟨⟨x163,i2164,h2165⟩,hq166⟩
        try dsimp only at hq166
        try dsimp only
        obtain⟨q167,q168⟩:=hq166
        refine dT 4 rfl (T3 (k:=11) (by kernel_rfl) rfl rfl rfl (by omega) rfl) ?_
        obtain⟨z178,hz179,b180⟩:=v9 (xs:=z38.2) (n:=0) (by omega) (by(have e7:=k7 _ (by assumption);omega))
        refine dT 8 rfl (V9 (by kernel_rfl) rfl rfl rfl b180 (f8 b180 hz179)) ?_
        refine dO 9 rfl (F8 x163 (n:=1) (by kernel_rfl) rfl rfl hz179 rfl rfl rfl rfl (.cons .sc .nil) rfl (fun j h1 h2=>by(simp at h1 h2;omega))) ?_
        refine dE ?_
        refine i9<|k9 ?_
        refine R5 11 7 (((0:Int)).toNat) 1 ((z38.1,z38.2.set ((0:Int)).toNat x163)) rfl rfl rfl (List.getElem?_eq_some_iff.1 hz39).1 rfl (fun j hj=>by(have:j=0∨j=1:=by omega);rcases this with rfl | rfl <;> rfl) ?_
        refine l9<|rC 5 ?_
        refine rS 5<|c9 ?_
        refine S8 Tryz.func108 (X9 5 .nil) (⟨b1.set (((0:Int)).toNat) ((z38.1,z38.2.set ((0:Int)).toNat x163)),hs2,e3,lv4,rv5,i2164,h2165⟩) ?_ ?_ (hL:=⟨rfl,⟨rfl,⟨rfl,trivial⟩⟩⟩)
        ·(try dsimp only) <;>((refine⟨⟨by(simp only [List.length_set];omega),k2,L8 k3 (by have e8:=k3 _ (D8 hz39);exact⟨e8.1,by(simp only [List.length_set];exact e8.2.1),L8 e8.2.2 (by have e9:=bZ (by assumption);omega)⟩),k4,k5,k6⟩,by omega⟩;done))
        ·rfl
      ·
       rintro⟨⟨x157,i2158,h2159⟩,hq160⟩
       try dsimp only at hq160
       try dsimp only
       obtain⟨q161,q162⟩:=hq160
       refine dT 3 rfl (I4 (off:=1) (by kernel_rfl) rfl) ?_
       refine dT 4 rfl (T3 (k:=11) (by kernel_rfl) rfl rfl rfl (by omega) rfl) ?_
       obtain⟨z181,hz182,b183⟩:=v9 (xs:=z38.2) (n:=0) (by omega) (by(have e7:=k7 _ (by assumption);omega))
       refine dT 8 rfl (V9 (by kernel_rfl) rfl rfl rfl b183 (f8 b183 hz182)) ?_
       refine dO 9 rfl (F8 x157 (n:=1) (by kernel_rfl) rfl rfl hz182 rfl rfl rfl rfl (.cons .sc .nil) rfl (fun j h1 h2=>by(simp at h1 h2;omega))) ?_
       refine dE ?_
       refine i9<|k9 ?_
       refine R5 11 7 (((0:Int)).toNat) 1 ((z38.1,z38.2.set ((0:Int)).toNat x157)) rfl rfl rfl (List.getElem?_eq_some_iff.1 hz39).1 rfl (fun j hj=>by(have:j=0∨j=1:=by omega);rcases this with rfl | rfl <;> rfl) ?_
       refine l9<|rC 5 ?_
       refine rS 5<|c9 ?_
       refine S8 Tryz.func108 (X9 5 .nil) (⟨b1.set (((0:Int)).toNat) ((z38.1,z38.2.set ((0:Int)).toNat x157)),hs2,e3,lv4,rv5,i2158,h2159⟩) ?_ ?_ (hL:=⟨rfl,⟨rfl,⟨rfl,trivial⟩⟩⟩)
       ·(try dsimp only) <;>((refine⟨⟨by(simp only [List.length_set];omega),k2,L8 k3 (by have e8:=k3 _ (D8 hz39);exact⟨e8.1,by(simp only [List.length_set];exact e8.2.1),L8 e8.2.2 (by have e9:=bZ (by assumption);omega)⟩),k4,k5,k6⟩,by omega⟩;done))
       ·rfl
     ·
      rintro⟨⟨x151,i2152,h2153⟩,hq154⟩
      try dsimp only at hq154
      try dsimp only
      obtain⟨q155,q156⟩:=hq154
      obtain⟨z184,hz185,b186⟩:=v9 (xs:=A0 b1 (((0:Int)).toNat) z38 1 v42) (n:=0) (by omega) (by(rw [F3];omega))
      refine dT 2 rfl (V9 (by kernel_rfl) rfl rfl rfl b186 (f8 b186 hz185)) ?_
      refine dT 3 rfl (I4 (off:=1) (by kernel_rfl) rfl) ?_
      refine dT 4 rfl (T3 (k:=11) (by kernel_rfl) rfl rfl rfl (by omega) rfl) ?_
      obtain⟨z187,hz188,b189⟩:=v9 (xs:=z38.2) (n:=0) (by omega) (by(have e7:=k7 _ (by assumption);omega))
      refine dT 8 rfl (V9 (by kernel_rfl) rfl rfl rfl b189 (f8 b189 hz188)) ?_
      refine dO 9 rfl (F8 x151 (n:=1) (by kernel_rfl) rfl rfl hz188 rfl rfl rfl rfl (.cons .sc .nil) rfl (fun j h1 h2=>by(simp at h1 h2;omega))) ?_
      refine dE ?_
      refine i9<|k9 ?_
      refine R5 11 7 (((0:Int)).toNat) 1 ((z38.1,z38.2.set ((0:Int)).toNat x151)) rfl rfl rfl (List.getElem?_eq_some_iff.1 hz39).1 rfl (fun j hj=>by(have:j=0∨j=1:=by omega);rcases this with rfl | rfl <;> rfl) ?_
      refine l9<|rC 5 ?_
      refine rS 5<|c9 ?_
      refine S8 Tryz.func108 (X9 5 .nil) (⟨b1.set (((0:Int)).toNat) ((z38.1,z38.2.set ((0:Int)).toNat x151)),hs2,e3,lv4,rv5,i2152,h2153⟩) ?_ ?_ (hL:=⟨rfl,⟨rfl,⟨rfl,trivial⟩⟩⟩)
      ·(try dsimp only) <;>((refine⟨⟨by(simp only [List.length_set];omega),k2,L8 k3 (by have e8:=k3 _ (D8 hz39);exact⟨e8.1,by(simp only [List.length_set];exact e8.2.1),L8 e8.2.2 (by have e9:=bZ (by assumption);omega)⟩),k4,k5,k6⟩,by omega⟩;done))
      ·rfl
    ·
     rintro⟨⟨x142,i2143,h2144⟩,hq145⟩
     try dsimp only at hq145
     try dsimp only
     obtain⟨q146,q147⟩:=hq145
     refine dT 1 rfl pL ?_
     obtain⟨z190,hz191,b192⟩:=v9 (xs:=A0 b1 (((0:Int)).toNat) z38 1 v42) (n:=0) (by omega) (by(rw [F3];omega))
     refine dT 2 rfl (V9 (by kernel_rfl) rfl rfl rfl b192 (f8 b192 hz191)) ?_
     refine dT 3 rfl (I4 (off:=1) (by kernel_rfl) rfl) ?_
     refine dT 4 rfl (T3 (k:=11) (by kernel_rfl) rfl rfl rfl (by omega) rfl) ?_
     obtain⟨z193,hz194,b195⟩:=v9 (xs:=z38.2) (n:=0) (by omega) (by(have e7:=k7 _ (by assumption);omega))
     refine dT 8 rfl (V9 (by kernel_rfl) rfl rfl rfl b195 (f8 b195 hz194)) ?_
     refine dO 9 rfl (F8 x142 (n:=1) (by kernel_rfl) rfl rfl hz194 rfl rfl rfl rfl (.cons .sc .nil) rfl (fun j h1 h2=>by(simp at h1 h2;omega))) ?_
     refine dE ?_
     refine i9<|k9 ?_
     refine R5 11 7 (((0:Int)).toNat) 1 ((z38.1,z38.2.set ((0:Int)).toNat x142)) rfl rfl rfl (List.getElem?_eq_some_iff.1 hz39).1 rfl (fun j hj=>by(have:j=0∨j=1:=by omega);rcases this with rfl | rfl <;> rfl) ?_
     refine l9<|rC 5 ?_
     refine rS 5<|c9 ?_
     refine S8 Tryz.func108 (X9 5 .nil) (⟨b1.set (((0:Int)).toNat) ((z38.1,z38.2.set ((0:Int)).toNat x142)),hs2,e3,lv4,rv5,i2143,h2144⟩) ?_ ?_ (hL:=⟨rfl,⟨rfl,⟨rfl,trivial⟩⟩⟩)
     ·(try dsimp only) <;>((refine⟨⟨by(simp only [List.length_set];omega),k2,L8 k3 (by have e8:=k3 _ (D8 hz39);exact⟨e8.1,by(simp only [List.length_set];exact e8.2.1),L8 e8.2.2 (by have e9:=bZ (by assumption);omega)⟩),k4,k5,k6⟩,by omega⟩;done))
     ·rfl
  ·
   have h37':=d8 h37
   refine t9<|rB ?_
   refine rA<|c9 ?_
   refine j9 rfl (fun h196=>?_) (fun h196=>?_)
   ·
    have h196':=a8 h196
    refine l9<|rM ?_
    refine K8 (o9 0 11 12 (pv:=some v0) (H9 Tryz.func41) (r9 code i213 h214 4 (by omega) (by omega) (by omega) (by omega) (by omega)) rfl rfl (.cur rfl (.cons rfl .nil)) rfl (fun⟨_,_,_⟩=>rfl) (fun _=>rfl) (fun⟨_,_,_⟩=>rfl) rfl rfl) ?_
    rintro⟨⟨x197,i2198,h2199⟩,hq200⟩
    try dsimp only at hq200
    try dsimp only
    obtain⟨q201,q202⟩:=hq200
    refine rF 3 ?_
    refine rS 1<|c9<|i9<|t9 ?_
    refine rC 5 ?_
    refine rS 5<|c9 ?_
    refine S8 Tryz.func108 (X9 5 .nil) (⟨b1,hs2,e3,x197,rv5,i2198,h2199⟩) ?_ ?_ (hL:=⟨rfl,⟨rfl,⟨rfl,trivial⟩⟩⟩)
    ·(try dsimp only) <;>((exact⟨⟨k1,k2,k3,k4,by(try dsimp only);omega,k6⟩,by omega⟩))
    ·rfl
   ·
    have h196':=d8 h196
    refine t9<|rB ?_
    refine rA<|c9 ?_
    refine j9 rfl (fun h203=>?_) (fun h203=>?_)
    ·
     have h203':=a8 h203
     refine l9<|rF 2 ?_
     refine rL ?_
     refine d9 (E8 rfl rfl) ?_
     refine rF 2 ?_
     refine rS 1<|c9<|i9<|t9 ?_
     refine rC 5 ?_
     refine rS 5<|c9 ?_
     refine S8 Tryz.func108 (X9 5 .nil) (⟨b1,hs2,!(e3),lv4,rv5,i213,h214⟩) ?_ ?_ (hL:=⟨rfl,⟨rfl,⟨rfl,trivial⟩⟩⟩)
     ·(try dsimp only) <;>((exact⟨by assumption,by omega⟩))
     ·rfl
    ·
     have h203':=d8 h203
     refine t9<|rB ?_
     refine rA<|c9 ?_
     refine j9 rfl (fun h204=>?_) (fun h204=>?_)
     ·
      have h204':=a8 h204
      refine tD (fun i=>!(Nat.beq i 4||Nat.beq i 5||Nat.beq i 7||Nat.beq i 9)) ?_
      refine V8 0 rfl rfl (by kernel_rfl) (by kernel_rfl) (by kernel_rfl) (I7 (off:=1) (by kernel_rfl) rfl) ?_
      refine V8 2 rfl rfl (by kernel_rfl) (by kernel_rfl) (by kernel_rfl) (G5 rfl) ?_
      refine dT 3 rfl pM ?_
      refine G8 1 4 rfl rfl (by kernel_rfl) rfl rfl (N4 oL) (o9 0 11 12 (pv:=some v0) (H9 Tryz.func41) (r9 code i213 h214 5 (by omega) (by omega) (by omega) (by omega) (by omega)) rfl rfl (.cur rfl (.cons rfl .nil)) rfl (fun⟨_,_,_⟩=>rfl) (fun _=>rfl) (fun⟨_,_,_⟩=>rfl) rfl rfl) ?_ ?_
      ·
       rintro⟨⟩
       refine J0 4 rfl (o9 0 11 12 (pv:=some v0) (H9 Tryz.func41) (r9 code i213 h214 5 (by omega) (by omega) (by omega) (by omega) (by omega)) rfl rfl (.cur rfl (.cons rfl .nil)) rfl (fun⟨_,_,_⟩=>rfl) (fun _=>rfl) (fun⟨_,_,_⟩=>rfl) rfl rfl) ?_
       rintro⟨⟨x211,i2212,h2213⟩,hq214⟩
       try dsimp only at hq214
       try dsimp only
       obtain⟨q215,q216⟩:=hq214
       refine J0 5 rfl (o9 0 12 17 (pv:=some v0) (H9 Tryz.func163) (y7 code i2212 h2213 x211 3 (by omega) (by omega) (by omega) (by omega) (by omega)) rfl rfl (.cur rfl (.cons rfl (.cons rfl .nil))) rfl (fun⟨_,_,_⟩=>rfl) (fun _=>rfl) (fun⟨_,_,_⟩=>rfl) rfl rfl) ?_
       rintro⟨⟨ts217,i2218,h2219⟩,hq220⟩
       try dsimp only at hq220
       try dsimp only
       obtain⟨q221,q222,q223⟩:=hq220
       have hy9:∀x∈ts217, -3≤x∧x≤4:=(by assumption)
       refine dO 6 rfl (w8 17 (e:=103) (sz:=2) (zs:=[.int .i64 0,.slice none 0 0]) rfl rfl (by kernel_rfl) rfl rfl rfl rfl rfl) ?_
       refine dO 7 rfl (W9 8 (e:=103) (sz:=2) (by':=32) ((x211,ts217)) rfl (by kernel_rfl) rfl rfl rfl rfl rfl rfl (.cons .sc (.take (.own rfl) rfl .nil)) rfl (by omega) (by omega)) ?_
       refine dT 8 rfl (pF 1) ?_
       refine dO 9 rfl (oS 1) ?_
       refine dE ?_
       refine i9<|t9<|rC 5 ?_
       refine rS 5<|c9 ?_
       refine S8 Tryz.func108 (X9 5 .nil) (⟨b1,hs2++[(x211,ts217)],e3,lv4,rv5,i2218,h2219⟩) ?_ ?_ (hL:=⟨rfl,⟨rfl,⟨rfl,trivial⟩⟩⟩)
       ·(try dsimp only) <;>((exact⟨⟨k1,by(simp only [List.length_append,List.length_singleton];omega),k3,d7 k4 ⟨by(try dsimp only);omega,by(try dsimp only);omega,fun x hx=>by have e9:=hy9 x hx;omega⟩,k5,k6⟩,by omega⟩))
       ·rfl
      ·
       rintro⟨⟨x205,i2206,h2207⟩,hq208⟩
       try dsimp only at hq208
       try dsimp only
       obtain⟨q209,q210⟩:=hq208
       refine G8 1 5 rfl rfl (by kernel_rfl) rfl rfl (N4 oL) (o9 0 12 17 (pv:=some v0) (H9 Tryz.func163) (y7 code i2206 h2207 x205 3 (by omega) (by omega) (by omega) (by omega) (by omega)) rfl rfl (.cur rfl (.cons rfl (.cons rfl .nil))) rfl (fun⟨_,_,_⟩=>rfl) (fun _=>rfl) (fun⟨_,_,_⟩=>rfl) rfl rfl) ?_ ?_
       ·
        rintro⟨⟩
        refine J0 5 rfl (o9 0 12 17 (pv:=some v0) (H9 Tryz.func163) (y7 code i2206 h2207 x205 3 (by omega) (by omega) (by omega) (by omega) (by omega)) rfl rfl (.cur rfl (.cons rfl (.cons rfl .nil))) rfl (fun⟨_,_,_⟩=>rfl) (fun _=>rfl) (fun⟨_,_,_⟩=>rfl) rfl rfl) ?_
        rintro⟨⟨ts231,i2232,h2233⟩,hq234⟩
        try dsimp only at hq234
        try dsimp only
        obtain⟨q235,q236,q237⟩:=hq234
        have hy9:∀x∈ts231, -3≤x∧x≤4:=(by assumption)
        refine dO 6 rfl (w8 17 (e:=103) (sz:=2) (zs:=[.int .i64 0,.slice none 0 0]) rfl rfl (by kernel_rfl) rfl rfl rfl rfl rfl) ?_
        refine dO 7 rfl (W9 8 (e:=103) (sz:=2) (by':=32) ((x205,ts231)) rfl (by kernel_rfl) rfl rfl rfl rfl rfl rfl (.cons .sc (.take (.own rfl) rfl .nil)) rfl (by omega) (by omega)) ?_
        refine dT 8 rfl (pF 1) ?_
        refine dO 9 rfl (oS 1) ?_
        refine dE ?_
        refine i9<|t9<|rC 5 ?_
        refine rS 5<|c9 ?_
        refine S8 Tryz.func108 (X9 5 .nil) (⟨b1,hs2++[(x205,ts231)],e3,lv4,rv5,i2232,h2233⟩) ?_ ?_ (hL:=⟨rfl,⟨rfl,⟨rfl,trivial⟩⟩⟩)
        ·(try dsimp only) <;>((exact⟨⟨k1,by(simp only [List.length_append,List.length_singleton];omega),k3,d7 k4 ⟨by(try dsimp only);omega,by(try dsimp only);omega,fun x hx=>by have e9:=hy9 x hx;omega⟩,k5,k6⟩,by omega⟩))
        ·rfl
       ·
        rintro⟨⟨ts224,i2225,h2226⟩,hq227⟩
        try dsimp only at hq227
        try dsimp only
        obtain⟨q228,q229,q230⟩:=hq227
        have hy9:∀x∈ts224, -3≤x∧x≤4:=(by assumption)
        refine dT 1 rfl pL ?_
        refine dO 6 rfl (w8 17 (e:=103) (sz:=2) (zs:=[.int .i64 0,.slice none 0 0]) rfl rfl (by kernel_rfl) rfl rfl rfl rfl rfl) ?_
        refine dO 7 rfl (W9 8 (e:=103) (sz:=2) (by':=32) ((x205,ts224)) rfl (by kernel_rfl) rfl rfl rfl rfl rfl rfl (.cons .sc (.take (.own rfl) rfl .nil)) rfl (by omega) (by omega)) ?_
        refine dT 8 rfl (pF 1) ?_
        refine dO 9 rfl (oS 1) ?_
        refine dE ?_
        refine i9<|t9<|rC 5 ?_
        refine rS 5<|c9 ?_
        refine S8 Tryz.func108 (X9 5 .nil) (⟨b1,hs2++[(x205,ts224)],e3,lv4,rv5,i2225,h2226⟩) ?_ ?_ (hL:=⟨rfl,⟨rfl,⟨rfl,trivial⟩⟩⟩)
        ·(try dsimp only) <;>((exact⟨⟨k1,by(simp only [List.length_append,List.length_singleton];omega),k3,d7 k4 ⟨by(try dsimp only);omega,by(try dsimp only);omega,fun x hx=>by have e9:=hy9 x hx;omega⟩,k5,k6⟩,by omega⟩))
        ·rfl
     ·
      have h204':=d8 h204
      refine m9<|i9<|t9<|rC 5 ?_
      refine rS 5<|c9 ?_
      refine S8 Tryz.func108 (X9 5 .nil) (⟨b1,hs2,e3,lv4,rv5,i213,h214⟩) ?_ ?_ (hL:=⟨rfl,⟨rfl,⟨rfl,trivial⟩⟩⟩)
      ·(try dsimp only) <;>((exact⟨by assumption,by omega⟩))
      ·rfl
theorem GT (code:List Int)(hc:code.length≤1048576):wK Tryz.prog 68 [.c (.t none (.sl 1 u7 code))] (fun(⟨rs,fs,ds,i2,h2⟩:T9 × w9 ×(List Y1) × Int × Int)=>NY rs fs∧ds.length≤6∧(∀d∈ds,R1 d)∧0≤i2∧i2≤code.length) (fun(⟨rs,fs,ds,i2,h2⟩:T9 × w9 ×(List Y1) × Int × Int)=>[(1,some (.box [.t none (.sl 1 u7 code),.t none (.v (.int .i64 i2)),.t none (.v (.int .i64 h2))]))]) 2 (fun(⟨rs,fs,ds,i2,h2⟩:T9 × w9 ×(List Y1) × Int × Int)=> .tup [(false,[.ptr 1 0]),(true,[.t none (.sl 3 (j8 Y9 f9 U9) rs),.t none (.sl 2 (y9 f9 (x9 1 f9)) fs)]),(false,[.t none (.sl 5 (TY (x9 2 (y9 f9 (x9 1 f9))) (x9 2 (y9 f9 (x9 1 f9))) U9 f9 f9) ds)])]):=by
 refine P4 Tryz.func68 rfl (Nat.le_of_ble_eq_true rfl) fun w S=>?_
 refine t9<|rA ?_
 refine d9 (F9 0 (zs:=[.slice none 0 0,.slice none 0 0]) rfl rfl (by kernel_rfl) rfl) ?_
 refine rA<|P8 ?_
 refine rM ?_
 refine K8 (R4 1 2 (H9 Tryz.func39) (M3 code (by omega)) rfl (.cons rfl (.c .t0) .nil) rfl rfl) ?_
 rintro⟨h1,hq2⟩
 try dsimp only at hq2
 try dsimp only
 refine rA<|P8 ?_
 refine rM ?_
 refine K8 (o9 1 2 3 (pv:=none) (H9 Tryz.func131) (DX code 0 h1 (by omega) (by omega) (by omega)) rfl rfl (.cur rfl .nil) rfl (fun⟨_,_,_,_⟩=>rfl) (fun _=>rfl) (fun⟨_,_,_,_⟩=>rfl) rfl rfl) ?_
 rintro⟨⟨rs4,fs5,i26,h27⟩,hq8⟩
 try dsimp only at hq8
 try dsimp only
 obtain⟨q9,q10⟩:=hq8
 refine d9 (F9 3 (zs:=[.slice none 0 0,.slice none 0 0]) rfl rfl (by kernel_rfl) rfl) ?_
 refine rS 2<|P8 ?_
 refine rM ?_
 refine K8 (o9 1 4 6 (pv:=none) (H9 Tryz.func107) (xT code i26 h27 (by omega) (by omega) (by omega)) rfl rfl (.cur rfl .nil) rfl (fun⟨_,_,_⟩=>rfl) (fun _=>rfl) (fun⟨_,_,_⟩=>rfl) rfl rfl) ?_
 rintro⟨⟨ds11,i212,h213⟩,hq14⟩
 try dsimp only at hq14
 try dsimp only
 obtain⟨q15,q16,q17⟩:=hq14
 refine rA<|c9<|k9<|t9 ?_
 refine rM ?_
 refine K8 (o9 1 6 7 (pv:=none) (H9 Tryz.func41) (r9 code i212 h213 20 (by omega) (by omega) (by omega) (by omega) (by omega)) rfl rfl (.cur rfl (.cons rfl .nil)) rfl (fun⟨_,_,_⟩=>rfl) (fun _=>rfl) (fun⟨_,_,_⟩=>rfl) rfl rfl) ?_
 rintro⟨⟨x18,i219,h220⟩,hq21⟩
 try dsimp only at hq21
 try dsimp only
 obtain⟨q22,q23⟩:=hq21
 refine c9<|p9<|t9<|rB ?_
 refine rA<|c9 ?_
 refine j9 rfl (fun h24=>?_) (fun h24=>?_)
 ·
  have h24':=a8 h24
  refine l9<|rM ?_
  refine K8 (o9 1 7 8 (pv:=none) (H9 Tryz.func42) (xY code i219 h220 (by omega) (by omega) (by omega)) rfl rfl (.cur rfl .nil) rfl (fun⟨_,_,_,_⟩=>rfl) (fun _=>rfl) (fun⟨_,_,_,_⟩=>rfl) rfl rfl) ?_
  rintro⟨⟨rs25,fs26,i227,h228⟩,hq29⟩
  try dsimp only at hq29
  try dsimp only
  obtain⟨q30,q31⟩:=hq29
  refine rS 2<|c9<|i9<|k9 ?_
  refine tD (fun i=>!(Nat.beq i 4)) ?_
  refine dT 0 rfl pM ?_
  refine dT 1 rfl (pC 2) ?_
  refine V8 2 rfl rfl (by kernel_rfl) (by kernel_rfl) (by kernel_rfl) (G5 rfl) ?_
  refine dT 3 rfl pA ?_
  refine dO 4 rfl (oS 2) ?_
  refine dT 5 rfl pA ?_
  refine dE ?_
  refine s9 5 rfl (K9 rfl) ?_
  refine S8 Tryz.func68 (.tmp rfl (X9 2 (.tmp rfl .nil))) (⟨rs25,fs26,ds11,i227,h228⟩) ?_ ?_ (hL:=⟨rfl,trivial⟩)
  ·(try dsimp only) <;>(refine⟨by assumption,?_,?_,by omega⟩ <;> omega)
  ·rfl
 ·
  have h24':=d8 h24
  refine t9<|rB ?_
  refine rA<|c9 ?_
  refine j9 rfl (fun h32=>?_) (fun h32=>?_)
  ·
   have h32':=a8 h32
   refine l9<|rM ?_
   refine rM ?_
   refine K8 (o9 1 7 16 (pv:=none) (H9 Tryz.func108) (qV code i219 h220 (by omega) (by omega) (by omega)) rfl rfl (.cur rfl .nil) rfl (fun⟨_,_,_,_,_,_,_⟩=>rfl) (fun _=>rfl) (fun⟨_,_,_,_,_,_,_⟩=>rfl) rfl rfl) ?_
   rintro⟨⟨b33,hs34,e35,lv36,rv37,i238,h239⟩,hq40⟩
   try dsimp only at hq40
   try dsimp only
   obtain⟨q41,q42⟩:=hq40
   refine d9 (w8 16 (e:=57) (sz:=5) (zs:=[.slice none 0 0,.slice none 0 0,.bool false,.int .i64 0,.int .i64 0]) rfl rfl (by kernel_rfl) rfl rfl rfl rfl rfl) ?_
   refine d9 (W9 5 (e:=57) (sz:=5) (by':=72) ((b33,hs34,e35,lv36,rv37)) rfl (by kernel_rfl) rfl rfl rfl rfl rfl rfl (.take (.own rfl) rfl (.take (.own rfl) rfl (.cons .sc (.cons .sc (.cons .sc .nil))))) rfl (by omega) (by omega)) ?_
   refine rA<|c9<|i9<|k9 ?_
   refine tD (fun i=>!(Nat.beq i 4)) ?_
   refine dT 0 rfl pM ?_
   refine dT 1 rfl (pC 2) ?_
   refine V8 2 rfl rfl (by kernel_rfl) (by kernel_rfl) (by kernel_rfl) (G5 rfl) ?_
   refine dT 3 rfl pA ?_
   refine dO 4 rfl (oS 2) ?_
   refine dT 5 rfl pA ?_
   refine dE ?_
   refine s9 5 rfl (K9 rfl) ?_
   refine S8 Tryz.func68 (.tmp rfl (X9 2 (.tmp rfl .nil))) (⟨rs4,fs5,ds11++[(b33,hs34,e35,lv36,rv37)],i238,h239⟩) ?_ ?_ (hL:=⟨rfl,trivial⟩)
   ·(try dsimp only) <;>(refine⟨by assumption,?_,?_,by omega⟩ <;> first | (simp only [List.length_append,List.length_cons,List.length_nil];omega) | exact d7 (by assumption) (by assumption))
   ·rfl
  ·
   have h32':=d8 h32
   refine m9<|i9<|k9 ?_
   refine tD (fun i=>!(Nat.beq i 4)) ?_
   refine dT 0 rfl pM ?_
   refine dT 1 rfl (pC 2) ?_
   refine V8 2 rfl rfl (by kernel_rfl) (by kernel_rfl) (by kernel_rfl) (G5 rfl) ?_
   refine dT 3 rfl pA ?_
   refine dO 4 rfl (oS 2) ?_
   refine dT 5 rfl pA ?_
   refine dE ?_
   refine s9 5 rfl (K9 rfl) ?_
   refine S8 Tryz.func68 (.tmp rfl (X9 2 (.tmp rfl .nil))) (⟨rs4,fs5,ds11,i219,h220⟩) ?_ ?_ (hL:=⟨rfl,trivial⟩)
   ·(try dsimp only) <;>(refine⟨by assumption,?_,?_,by omega⟩ <;> omega)
   ·rfl
theorem uZ (code:List Int)(hc:code.length≤1048576):wK Tryz.prog 29 [.c (.t none (.sl 1 u7 code))] (fun(⟨rs,fs,ds⟩:T9 × w9 ×(List Y1))=>NY rs fs∧ds.length≤6∧(∀d∈ds,R1 d)) (fun(⟨rs,fs,ds⟩:T9 × w9 ×(List Y1))=>[]) 0 (fun(⟨rs,fs,ds⟩:T9 × w9 ×(List Y1))=> .tup [(true,[.t none (.sl 3 (j8 Y9 f9 U9) rs),.t none (.sl 2 (y9 f9 (x9 1 f9)) fs)]),(false,[.t none (.sl 5 (TY (x9 2 (y9 f9 (x9 1 f9))) (x9 2 (y9 f9 (x9 1 f9))) U9 f9 f9) ds)])]):=by
 refine P4 Tryz.func29 rfl (Nat.le_of_ble_eq_true rfl) fun w S=>?_
 refine t9 ?_
 refine d9 (F9 0 (zs:=[.slice none 0 0,.slice none 0 0]) rfl rfl (by kernel_rfl) rfl) ?_
 refine rA<|P8 ?_
 refine rM ?_
 refine K8 (R4 1 3 (H9 Tryz.func68) (GT code (by omega)) rfl (.cons rfl (.c .t0) .nil) rfl rfl) ?_
 rintro⟨⟨rs1,fs2,ds3,i24,h25⟩,hq6⟩
 try dsimp only at hq6
 try dsimp only
 obtain⟨q7,q8,q9,q10⟩:=hq6
 refine rM ?_
 refine d9 (D9 rfl rfl rfl rfl) ?_
 refine d9 (D9 rfl rfl rfl rfl) ?_
 refine d9 (D9 rfl rfl rfl rfl) ?_
 refine d9 (F9 3 (zs:=[.slice none 0 0,.slice none 0 0]) rfl rfl (by kernel_rfl) rfl) ?_
 refine rA ?_
 refine rS 2 ?_
 refine rA<|P8 ?_
 refine rC 2 ?_
 refine rM ?_
 refine rS 2 ?_
 refine rA<|c9 ?_
 refine S8 Tryz.func29 (X9 2 (.tmp rfl .nil)) (⟨rs1,fs2,ds3⟩) ?_ ?_
 ·(try dsimp only) <;>(exact⟨by assumption,by assumption,by assumption⟩)
 ·rfl
theorem sX (code:List Int)(hc:code.length≤1048576):wK Tryz.prog 6 [.c (.t none (.sl 1 u7 code))] (fun(⟨rs,fs,ds⟩:T9 × w9 ×(List Y1))=>NY rs fs∧ds.length≤6∧(∀d∈ds,R1 d)) (fun(⟨rs,fs,ds⟩:T9 × w9 ×(List Y1))=>[]) 0 (fun(⟨rs,fs,ds⟩:T9 × w9 ×(List Y1))=> .tup [(true,[.t none (.sl 3 (j8 Y9 f9 U9) rs),.t none (.sl 2 (y9 f9 (x9 1 f9)) fs)]),(false,[.t none (.sl 5 (TY (x9 2 (y9 f9 (x9 1 f9))) (x9 2 (y9 f9 (x9 1 f9))) U9 f9 f9) ds)])]):=by
 refine P4 Tryz.func6 rfl (Nat.le_of_ble_eq_true rfl) fun w S=>?_
 refine t9 ?_
 refine d9 (F9 0 (zs:=[.slice none 0 0,.slice none 0 0]) rfl rfl (by kernel_rfl) rfl) ?_
 refine rA<|P8 ?_
 refine rM ?_
 refine K8 (R4 1 1 (H9 Tryz.func29) (uZ code (by omega)) rfl (.cons rfl (.c .t0) .nil) rfl rfl) ?_
 rintro⟨⟨rs1,fs2,ds3⟩,hq4⟩
 try dsimp only at hq4
 try dsimp only
 obtain⟨q5,q6,q7⟩:=hq4
 refine d9 (D9 rfl rfl rfl rfl) ?_
 refine d9 (D9 rfl rfl rfl rfl) ?_
 refine rS 2 ?_
 refine rA<|c9 ?_
 refine S8 Tryz.func6 (X9 2 (.tmp rfl .nil)) (⟨rs1,fs2,ds3⟩) ?_ ?_
 ·(try dsimp only) <;>(exact⟨by assumption,by assumption,by assumption⟩)
 ·rfl
theorem L6 (a0 a1 a2:Int):Pu Tryz.prog 157 [.c (.t none (.v (.int .i64 a0))),.c (.t none (.v (.int .i64 a1))),.c (.t none (.v (.int .i64 a2)))] [] 0 (.c (.t none (.v (.bool (decide (a1≤a0∧a0≤a2)))))):=by
 refine S7 Tryz.func157 fun w S=>?_
 refine t9<|rA<|P8 ?_
 refine rM ?_
 refine rM ?_
 refine rB ?_
 refine rM ?_
 refine A9 (fun g1=>?_) (fun g1=>?_)
 ·
  have g1':=a8 g1
  refine rM ?_
  refine A9 (fun _=>?_) (nc g1)
  refine rM ?_
  refine A9 (fun _=>?_) (nc g1)
  refine rB ?_
  refine d9 (M9 rfl rfl g1 rfl) ?_
  refine rA<|c9 ?_
  refine tk Tryz.func157 (.tmp rfl .nil) ?_
  all_goals(simp_all <;> omega)
 ·
  have g1':=d8 g1
  refine A9 (C9 g1) (fun _=>?_)
  refine A9 (C9 g1) (fun _=>?_)
  refine d9 (G9 rfl rfl g1 rfl) ?_
  refine rA<|c9 ?_
  refine tk Tryz.func157 (.tmp rfl .nil) ?_
  all_goals(simp_all <;> omega)
theorem mY (n:List UInt8)(a:Int)(s:Bool):Pu Tryz.prog 110 [.agg [.t none (.v (.string (U6 n))),.t none (.v (.int .i64 a)),.t none (.v (.bool s))]] [] 0 (.c (.t none (.v (.bool (B0 (n,a,s)))))):=by
 refine S7 Tryz.func110 fun w S=>?_
 refine t9 ?_
 refine d9 (m8 0 rfl rfl rfl rfl) ?_
 refine rA<|P8 ?_
 refine rF 0 ?_
 refine rL ?_
 refine d9 (zL rfl Tryz.underlying9 rfl) ?_
 refine rB ?_
 refine rM ?_
 refine A9 (fun g1=>?_) (fun g1=>?_)
 ·
  have g1':=a8 g1
  refine rF 0 ?_
  refine A9 (fun _=>?_) (nc g1)
  refine rL ?_
  refine A9 (fun _=>?_) (nc g1)
  refine d9 (VP rfl rfl rfl rfl) ?_
  refine d9 (M9 rfl rfl g1 rfl) ?_
  refine rM ?_
  refine A9 (fun g2=>?_) (fun g2=>?_)
  ·
   have g2':=(d4 g2)
   refine rF 0 ?_
   refine A9 (fun _=>?_) (nc g2)
   refine rL ?_
   refine A9 (fun _=>?_) (nc g2)
   refine d9 (VP rfl rfl rfl rfl) ?_
   refine d9 (M9 rfl rfl g2 rfl) ?_
   refine rM ?_
   refine A9 (fun g3=>?_) (fun g3=>?_)
   ·
    have g3':=(d4 g3)
    refine rF 1 ?_
    refine A9 (fun _=>?_) (nc g3)
    refine rL ?_
    refine A9 (fun _=>?_) (nc g3)
    refine d9 (n9 1 1 false (H9 Tryz.func157) (L6 a 1 3) rfl (.cons rfl (.c .t0) (.cons rfl (.c .t0) (.cons rfl (.c .t0) .nil))) rfl rfl rfl) ?_
    refine d9 (M9 rfl rfl g3 rfl) ?_
    refine rA<|c9 ?_
    refine tk Tryz.func110 (.tmp rfl .nil) ?_
    all_goals(refine K7 ?_;(obtain⟨c,rfl⟩:=TV (by assumption);simp only [OR,bQ,Bool.not_eq_true',Bool.not_eq_false',decide_eq_true_eq,decide_eq_false_iff_not] at *;simp [B0,wX];omega))
   ·
    have g3':=(Y5 g3)
    refine A9 (C9 g3) (fun _=>?_)
    refine A9 (C9 g3) (fun _=>?_)
    refine d9 (G9 rfl rfl g3 rfl) ?_
    refine rA<|c9 ?_
    refine tk Tryz.func110 (.tmp rfl .nil) ?_
    all_goals(refine K7 ?_;(obtain⟨c,rfl⟩:=TV (by assumption);simp only [OR,bQ,Bool.not_eq_true',Bool.not_eq_false',decide_eq_true_eq,decide_eq_false_iff_not] at *;simp [B0,wX];omega))
  ·
   have g2':=(Y5 g2)
   refine A9 (C9 g2) (fun _=>?_)
   refine A9 (C9 g2) (fun _=>?_)
   refine d9 (G9 rfl rfl g2 rfl) ?_
   refine rM ?_
   refine A9 (C9 rfl) (fun _=>?_)
   refine A9 (C9 rfl) (fun _=>?_)
   refine A9 (C9 rfl) (fun _=>?_)
   refine d9 (G9 rfl rfl rfl rfl) ?_
   refine rA<|c9 ?_
   refine tk Tryz.func110 (.tmp rfl .nil) ?_
   all_goals(refine K7 ?_;(obtain⟨c,rfl⟩:=TV (by assumption);simp only [OR,bQ,Bool.not_eq_true',Bool.not_eq_false',decide_eq_true_eq,decide_eq_false_iff_not] at *;simp [B0,wX];omega))
 ·
  have g1':=d8 g1
  refine A9 (C9 g1) (fun _=>?_)
  refine A9 (C9 g1) (fun _=>?_)
  refine d9 (G9 rfl rfl g1 rfl) ?_
  refine rM ?_
  refine A9 (C9 rfl) (fun _=>?_)
  refine A9 (C9 rfl) (fun _=>?_)
  refine A9 (C9 rfl) (fun _=>?_)
  refine d9 (G9 rfl rfl rfl rfl) ?_
  refine rM ?_
  refine A9 (C9 rfl) (fun _=>?_)
  refine A9 (C9 rfl) (fun _=>?_)
  refine A9 (C9 rfl) (fun _=>?_)
  refine d9 (G9 rfl rfl rfl rfl) ?_
  refine rA<|c9 ?_
  refine tk Tryz.func110 (.tmp rfl .nil) ?_
  all_goals(refine K7 ?_;(have e:=gT (by assumption);simp [B0,e];done))
theorem o6 (l:List (List UInt8 × Int × Bool))(hl:l.length≤4611686018427387904):Pu Tryz.prog 52 [.c (.t none (.sl 3 (j8 Y9 f9 U9) l))] [] 0 (.c (.t none (.v (.bool (v4 l))))):=by
 refine S7 Tryz.func52 fun w S=>?_
 refine t9<|rA<|c9<|k9<|t9 ?_
 refine rM ?_
 refine d9 (P9 rfl rfl rfl) ?_
 refine rM<|c9<|p9 ?_
 refine J9 (fun m=>⟨[(0,some (.c (.t none (.sl 3 (j8 Y9 f9 U9) l)))),(5,some (.c (.t none (.sl 3 (j8 Y9 f9 U9) l)))),(6,some (.c (.t none (.v (.int .i64 ((l.length:Int))))))),(7,some (.c (.t none (.v (.int .i64 ((m:Int)))))))],[],0⟩:Nat→St) (fun m=>m≤l.length∧∀j,j < m→S3 l j=true) (fun m=>l.length - m) 0 ⟨⟨rfl,⟨rfl,⟨rfl,⟨rfl,trivial⟩⟩⟩⟩,trivial,rfl⟩ (by exact⟨Nat.zero_le _,fun j h=>by omega⟩) ?_
 rintro m hI ih0
 try dsimp only at hI ih0
 obtain⟨i1,i2⟩:=hI
 refine t9<|rB<|c9<|k9 ?_
 refine j9 rfl (fun h1=>?_) (fun h1=>?_)
 ·
  have h1':=a8 h1
  refine m9<|k9<|p9<|t9<|rM ?_
  obtain⟨z2,hz3,b4⟩:=v9 (xs:=l) (n:=(m:Int)) (by omega) (by omega)
  refine d9 (Q9 rfl (by kernel_rfl) rfl rfl b4 hz3) ?_
  refine d9 (m6 rfl (n:=3) (by kernel_rfl) (by kernel_rfl) rfl rfl) ?_
  refine d9 (F9 0 (zs:=[.string (U6 ([])),.int .i64 0,.bool false]) rfl rfl (by kernel_rfl) rfl) ?_
  refine rA ?_
  refine rS 3<|c9<|k9 ?_
  refine tY ?_
  refine dT 0 rfl (pC 3) ?_
  refine dO 1 rfl (n9 1 1 false (H9 Tryz.func110) (mY z2.1 z2.2.1 z2.2.2) rfl (.cons rfl (.agg (.cons .t0 (.cons .t0 (.cons .t0 .nil)))) .nil) rfl rfl rfl) ?_
  refine dT 2 rfl (R3 rfl) ?_
  refine dT 3 rfl pM ?_
  refine dH 4 rfl (fun _=>pM) (fun g5=>?_) (fun g5=>?_)
  ·
   have g5':=(Y5 g5)
   refine dH 5 rfl (fun _=>pB) (fun _=>?_) (C9 g5)
   refine dH 6 rfl (fun _=>pM) (fun _=>?_) (C9 g5)
   refine dH 7 rfl (fun _=>pF 0) (fun g6=>?_) (fun g6=>?_)
   ·
    have g6':=a8 g6
    refine dH 8 rfl (fun _=>pL) (fun _=>?_) (nc g6)
    refine dH 9 rfl (fun _=>pM) (fun _=>?_) (nc g6)
    refine dH 10 rfl (fun _=>pM) (fun _=>?_) (nc g6)
    refine dH 11 rfl (fun _=>pB) (fun _=>?_) (nc g6)
    obtain⟨z7,hz8,b9⟩:=v9 (xs:=l) (n:=IntKind.i64.wrap ((m:Int) - 1)) (by(simp only [IntKind.wrap_i64];omega)) (by(simp only [IntKind.wrap_i64];omega))
    refine dH 12 rfl (fun _=>p8 (by kernel_rfl) rfl rfl b9 hz8) (fun _=>?_) (nc g6)
    refine dH 13 rfl (fun _=>R2 (off:=0) (by kernel_rfl) rfl) (fun _=>?_) (nc g6)
    refine dH 14 rfl (fun _=>Y8 (by kernel_rfl) rfl rfl) (fun _=>?_) (nc g6)
    refine dH 15 rfl (fun _=>ZT rfl rfl rfl) (fun _=>?_) (nc g6)
    refine dH 16 rfl (fun _=>C8 rfl g6 rfl) (fun _=>?_) (C9 g5)
    refine dT 17 rfl (r8 rfl g5 rfl) ?_
    refine dE ?_
    refine j9 rfl (fun h10=>?_) (fun h10=>?_)
    ·
     have h10':=(d4 h10)
     refine t9<|rA<|c9 ?_
     refine tk Tryz.func52 (.tmp rfl .nil) ?_ <;>(try clear ih0)
     all_goals(rw [rY (m:=m) (by omega) (DZ (n:=(IntKind.i64.wrap ((m:Int) - 1)).toNat) (by assumption) (by assumption) (by omega) (by simp only [IntKind.wrap_i64];omega) (by assumption) (by assumption))])
    ·
     have h10':=(Y5 h10)
     refine m9<|i9<|l9<|rB ?_
     refine rM<|c9 ?_
     refine Z9 ?_ (ih0 (m + 1) (by(try dsimp only);omega) (by(try dsimp only);exact⟨by omega,i6 i2 (DZ (n:=(IntKind.i64.wrap ((m:Int) - 1)).toNat) (by assumption) (by assumption) (by omega) (by simp only [IntKind.wrap_i64];omega) (by assumption) (by assumption))⟩))
     exact⟨⟨rfl,⟨rfl,⟨rfl,⟨(L7 (n8 (by omega) (by omega))),trivial⟩⟩⟩⟩,trivial,rfl⟩
   ·
    have g6':=d8 g6
    refine dG 8 (C9 g6) (fun _=>?_)
    refine dG 9 (C9 g6) (fun _=>?_)
    refine dG 10 (C9 g6) (fun _=>?_)
    refine dG 11 (C9 g6) (fun _=>?_)
    refine dG 12 (C9 g6) (fun _=>?_)
    refine dG 13 (C9 g6) (fun _=>?_)
    refine dG 14 (C9 g6) (fun _=>?_)
    refine dG 15 (C9 g6) (fun _=>?_)
    refine dH 16 rfl (fun _=>r8 rfl g6 rfl) (fun _=>?_) (C9 g5)
    refine dT 17 rfl (r8 rfl g5 rfl) ?_
    refine dE ?_
    refine j9 rfl (C9 rfl) (fun _=>?_)
    refine m9<|i9<|l9<|rB ?_
    refine rM<|c9 ?_
    refine Z9 ?_ (ih0 (m + 1) (by(try dsimp only);omega) (by(try dsimp only);exact⟨by omega,i6 i2 (cV (by assumption) (by assumption) (by omega))⟩))
    exact⟨⟨rfl,⟨rfl,⟨rfl,⟨(L7 (n8 (by omega) (by omega))),trivial⟩⟩⟩⟩,trivial,rfl⟩
  ·
   have g5':=(d4 g5)
   refine dG 5 (nc g5) (fun _=>?_)
   refine dG 6 (nc g5) (fun _=>?_)
   refine dK 7 ?_
   refine dK 8 ?_
   refine dK 9 ?_
   refine dK 10 ?_
   refine dK 11 ?_
   refine dK 12 ?_
   refine dK 13 ?_
   refine dK 14 ?_
   refine dK 15 ?_
   refine dG 16 (nc g5) (fun _=>?_)
   refine dT 17 rfl (C8 rfl g5 rfl) ?_
   refine dE ?_
   refine j9 rfl (fun _=>?_) (nc rfl)
   refine t9<|rA<|c9 ?_
   refine tk Tryz.func52 (.tmp rfl .nil) ?_ <;>(try clear ih0)
   all_goals(rw [rY (m:=m) (by omega) (jU (by assumption) (by assumption))])
 ·
  have h1':=d8 h1
  refine N9 rfl<|t9<|rM ?_
  refine d9 (P9 rfl rfl rfl) ?_
  refine rB ?_
  refine rA<|c9 ?_
  refine tk Tryz.func52 (.tmp rfl .nil) ?_ <;>(try clear ih0)
  all_goals(rw [XU (m:=m) i2 (by omega)];exact VH (by omega))
theorem Y2 (l:List Int)(f:Nat)(cs:List ((Nat→T) × Nat))(p:Int→Bool)(hl:l.length≤9223372036854775807)(hf:∀x∈l,Fu Tryz.prog f ([.c (.t none (.v (.int .i64 x)))]++kV cs) (.c (.t none (.v (.bool (p x)))))):Pu Tryz.prog 210 [.c (.t none (.sl 1 f9 l)),.c (.fv f cs)] [] 0 (.c (.t none (.v (.int .i64 (Y4 p l))))):=by
 refine S7 Tryz.func210 fun w S=>?_
 refine t9<|rA<|c9<|k9<|t9 ?_
 refine rM ?_
 refine d9 (P9 rfl rfl rfl) ?_
 refine rM<|c9<|p9 ?_
 refine J9 (fun m=>⟨[(0,some (.c (.t none (.sl 1 f9 l)))),(1,some (.c (.fv f cs))),(7,some (.c (.t none (.v (.int .i64 ((l.length:Int))))))),(8,some (.c (.t none (.v (.int .i64 ((m:Int)))))))],[],0⟩:Nat→St) (fun m=>m≤l.length∧∀j z,j < m→l[j]? =some z→p z=false) (fun m=>l.length - m) 0 ⟨⟨rfl,⟨rfl,⟨rfl,⟨rfl,trivial⟩⟩⟩⟩,trivial,rfl⟩ (by exact⟨Nat.zero_le _,fun j z h=>by omega⟩) ?_
 rintro m hI ih0
 try dsimp only at hI ih0
 obtain⟨i1,i2⟩:=hI
 refine t9<|rB<|c9<|k9 ?_
 refine j9 rfl (fun h1=>?_) (fun h1=>?_)
 ·
  have h1':=a8 h1
  refine m9<|k9<|p9<|t9<|rM ?_
  refine rA<|P8 ?_
  refine rM ?_
  refine rM ?_
  refine rM ?_
  obtain⟨z2,hz3,b4⟩:=v9 (xs:=l) (n:=(m:Int)) (by omega) (by omega)
  refine d9 (Q9 rfl (by kernel_rfl) rfl rfl b4 hz3) ?_
  refine d9 (i8 rfl (by kernel_rfl) rfl rfl) ?_
  refine d9 (QW 0 0 false (hf z2 (D8 (by assumption))).1 (hf z2 (D8 (by assumption))).2 rfl rfl (.c .fv) (.cons rfl (.c .t0) .nil) rfl rfl rfl) ?_
  refine c9 ?_
  refine j9 rfl (fun h5=>?_) (fun h5=>?_)
  ·
   have h5':=h5
   refine t9<|rM ?_
   refine rA<|c9 ?_
   refine tk Tryz.func210 (.tmp rfl .nil) ?_ <;>(try clear ih0)
   all_goals(rw [W2 i2 (by assumption) (by assumption)])
  ·
   have h5':=h5
   refine m9<|i9<|l9<|rB ?_
   refine rM<|c9 ?_
   refine Z9 ?_ (ih0 (m + 1) (by(try dsimp only);omega) (by(try dsimp only);exact⟨by omega,p5 i2 (by assumption) rfl (by assumption)⟩))
   exact⟨⟨rfl,⟨rfl,⟨rfl,⟨(L7 (n8 (by omega) (by omega))),trivial⟩⟩⟩⟩,trivial,rfl⟩
 ·
  have h1':=d8 h1
  refine N9 rfl<|t9<|rA<|c9 ?_
  refine tk Tryz.func210 (.tmp rfl .nil) ?_ <;>(try clear ih0)
  all_goals(rw [I3 i2 (by omega)])
theorem l5 (l:List Int)(f:Nat)(cs:List ((Nat→T) × Nat))(p:Int→Bool)(hl:l.length≤9223372036854775807)(hf:∀x∈l,Fu Tryz.prog f ([.c (.t none (.v (.int .i64 x)))]++kV cs) (.c (.t none (.v (.bool (p x)))))):Pu Tryz.prog 178 [.c (.t none (.sl 1 f9 l)),.c (.fv f cs)] [] 0 (.c (.t none (.v (.bool (l.any p))))):=by
 refine S7 Tryz.func178 fun w S=>?_
 refine t9<|rA<|P8 ?_
 refine rM ?_
 refine rM ?_
 refine d9 (n9 0 0 false (H9 Tryz.func210) (Y2 l f cs p (by omega) hf) rfl (.cons rfl (.c .t0) (.cons rfl (.c .fv) .nil)) rfl rfl rfl) ?_
 refine rB ?_
 refine rA<|c9 ?_
 refine tk Tryz.func178 (.tmp rfl .nil) ?_
 all_goals(exact K7 X2)
theorem a6 (v:Int):Pu Tryz.prog 99 [.c (.t none (.v (.int .i64 v)))] [] 0 (.c (.t none (.v (.bool (decide (-40≤v∧v≤9)))))):=by
 refine S7 Tryz.func99 fun w S=>?_
 refine t9<|rA<|P8 ?_
 refine rM ?_
 refine d9 (n9 0 0 false (H9 Tryz.func157) (L6 v (-40) 9) rfl (.cons rfl (.c .t0) (.cons rfl (.c .t0) (.cons rfl (.c .t0) .nil))) rfl rfl rfl) ?_
 refine rA<|c9 ?_
 refine tk Tryz.func99 (.tmp rfl .nil) ?_
 all_goals rfl
theorem HX (t:Int):Pu Tryz.prog 179 [.c (.t none (.v (.int .i64 t)))] [] 0 (.c (.t none (.v (.bool (!(yV t)))))):=by
 refine S7 Tryz.func179 fun w S=>?_
 refine t9<|rA<|P8 ?_
 refine rM ?_
 refine d9 (n9 0 0 false (H9 Tryz.func99) (a6 t) rfl (.cons rfl (.c .t0) .nil) rfl rfl rfl) ?_
 refine d9 (E8 rfl rfl) ?_
 refine rA<|c9 ?_
 refine tk Tryz.func179 (.tmp rfl .nil) ?_
 all_goals rfl
theorem tW (rs:List (List UInt8 × Int × Bool))(r:Int)(ts:List Int)(hrs:rs.length≤4611686018427387904)(hts:ts.length≤4611686018427387904)(ho:∀x∈ts,B7 x):Pu Tryz.prog 132 [.c (.t none (.sl 3 (j8 Y9 f9 U9) rs)),.agg [.t none (.v (.int .i64 r)),.t none (.sl 1 f9 ts)]] [] 0 (.c (.t none (.v (.bool (K5 rs r ts))))):=by
 refine S7 Tryz.func132 fun w S=>?_
 refine t9 ?_
 refine d9 (m8 0 rfl rfl rfl rfl) ?_
 refine rA<|c9<|k9<|k9 ?_
 refine tY ?_
 refine dT 0 rfl pM ?_
 refine dO 1 rfl (n9 1 1 false (H9 Tryz.func52) (o6 rs (by omega)) rfl (.cons rfl (.c .t0) .nil) rfl rfl rfl) ?_
 refine dT 2 rfl (R3 rfl) ?_
 refine dT 3 rfl pM ?_
 refine dH 4 rfl (fun _=>pF 0) (fun g1=>?_) (fun g1=>?_)
 ·
  have g1':=(Y5 g1)
  refine dH 5 rfl (fun _=>pL) (fun _=>?_) (C9 g1)
  refine dH 6 rfl (fun _=>pM) (fun _=>?_) (C9 g1)
  refine dH 7 rfl (fun _=>X6 rfl rfl) (fun _=>?_) (C9 g1)
  refine dH 8 rfl (fun _=>pB) (fun _=>?_) (C9 g1)
  refine C7 9 rfl rfl (by kernel_rfl) rfl rfl rfl (fun _=>(n9 1 1 false (H9 Tryz.func157) (L6 r 0 (IntKind.i64.wrap ((rs.length:Int) - 1))) rfl (.cons rfl (.c .t0) (.cons rfl (.c .t0) (.cons rfl (.c .t0) .nil))) rfl rfl rfl)) (fun _=>?_) (C9 g1)
  refine dH 10 rfl (fun _=>R3 rfl) (fun _=>?_) (C9 g1)
  refine dT 11 rfl (r8 rfl g1 rfl) ?_
  refine dT 12 rfl pM ?_
  refine dH 13 rfl (fun _=>pF 1) (fun g2=>?_) (fun g2=>?_)
  ·
   have g2':=a8 (Y5 g2)
   refine dH 14 rfl (fun _=>pL) (fun _=>?_) (C9 g2)
   refine dH 15 rfl (fun _=>X6 rfl rfl) (fun _=>?_) (C9 g2)
   refine dH 16 rfl (fun _=>pM) (fun _=>?_) (C9 g2)
   refine dH 17 rfl (fun _=>pF 0) (fun _=>?_) (C9 g2)
   refine dH 18 rfl (fun _=>pL) (fun _=>?_) (C9 g2)
   obtain⟨z3,hz4,b5⟩:=v9 (xs:=rs) (n:=r) (by omega) (by(simp only [IntKind.wrap_i64] at *;omega))
   refine dH 19 rfl (fun _=>p8 (by kernel_rfl) rfl rfl b5 hz4) (fun _=>?_) (C9 g2)
   refine dH 20 rfl (fun _=>R2 (off:=1) (by kernel_rfl) rfl) (fun _=>?_) (C9 g2)
   refine dH 21 rfl (fun _=>Y8 (by kernel_rfl) rfl rfl) (fun _=>?_) (C9 g2)
   refine dH 22 rfl (fun _=>pB) (fun _=>?_) (C9 g2)
   refine dT 23 rfl (r8 rfl g2 rfl) ?_
   refine dE ?_
   refine j9 rfl (fun h6=>?_) (fun h6=>?_)
   ·
    have h6':=a8 h6
    refine t9<|rA<|c9 ?_
    refine tk Tryz.func132 (.tmp rfl .nil) ?_
    all_goals(refine K7 ?_;(rw [sP (by assumption) (by assumption)];done))
   ·
    have h6':=d8 h6
    refine m9<|t9<|rF 1 ?_
    refine rL ?_
    refine d9 (n9 1 1 false (H9 Tryz.func178) (l5 ts 179 ([]) (fun(x0:Int)=>!(yV x0)) (by omega) (fun x0 mx0=>⟨H9 Tryz.func179,HX x0⟩)) rfl (.cons rfl (.c .t0) (.cons rfl (.c (.clo .nil)) .nil)) rfl rfl rfl) ?_
    refine d9 (E8 rfl rfl) ?_
    refine rA<|c9 ?_
    refine tk Tryz.func132 (.tmp rfl .nil) ?_
    all_goals(refine K7 ?_;(rw [WT (by assumption) (by simp only [IntKind.wrap_i64] at *;omega) (by assumption) (by omega)];done))
  ·
   have g2':=d8 (d4 g2)
   refine dG 14 (nc g2) (fun _=>?_)
   refine dG 15 (nc g2) (fun _=>?_)
   refine dG 16 (nc g2) (fun _=>?_)
   refine dG 17 (nc g2) (fun _=>?_)
   refine dG 18 (nc g2) (fun _=>?_)
   refine dG 19 (nc g2) (fun _=>?_)
   refine dG 20 (nc g2) (fun _=>?_)
   refine dG 21 (nc g2) (fun _=>?_)
   refine dG 22 (nc g2) (fun _=>?_)
   refine dT 23 rfl (C8 rfl g2 rfl) ?_
   refine dE ?_
   refine j9 rfl (fun _=>?_) (nc rfl)
   refine t9<|rA<|c9 ?_
   refine tk Tryz.func132 (.tmp rfl .nil) ?_
   all_goals(refine K7 ?_;(rw [uQ (by simp only [IntKind.wrap_i64] at *;omega)];done))
 ·
  have g1':=(d4 g1)
  refine dG 5 (nc g1) (fun _=>?_)
  refine dG 6 (nc g1) (fun _=>?_)
  refine dG 7 (nc g1) (fun _=>?_)
  refine dG 8 (nc g1) (fun _=>?_)
  refine dG 9 (nc g1) (fun _=>?_)
  refine dG 10 (nc g1) (fun _=>?_)
  refine dT 11 rfl (C8 rfl g1 rfl) ?_
  refine dT 12 rfl pM ?_
  refine dG 13 (nc rfl) (fun _=>?_)
  refine dG 14 (nc rfl) (fun _=>?_)
  refine dG 15 (nc rfl) (fun _=>?_)
  refine dG 16 (nc rfl) (fun _=>?_)
  refine dG 17 (nc rfl) (fun _=>?_)
  refine dG 18 (nc rfl) (fun _=>?_)
  refine dG 19 (nc rfl) (fun _=>?_)
  refine dG 20 (nc rfl) (fun _=>?_)
  refine dG 21 (nc rfl) (fun _=>?_)
  refine dG 22 (nc rfl) (fun _=>?_)
  refine dT 23 rfl (C8 rfl rfl rfl) ?_
  refine dE ?_
  refine j9 rfl (fun _=>?_) (nc rfl)
  refine t9<|rA<|c9 ?_
  refine tk Tryz.func132 (.tmp rfl .nil) ?_
  all_goals(refine K7 ?_;(rw [vQ (by assumption)];done))
theorem aY (x:Int):Pu Tryz.prog 211 [.c (.t none (.v (.int .i64 x)))] [] 0 (.c (.t none (.v (.bool false)))):=by
 refine S7 Tryz.func211 fun w S=>?_
 refine t9<|rA<|P8 ?_
 refine rM ?_
 refine rM ?_
 refine rB ?_
 refine rA<|c9 ?_
 refine tk Tryz.func211 (.tmp rfl .nil) ?_
 all_goals simp
theorem eZ (x y:Int):Pu Tryz.prog 181 [.c (.t none (.v (.int .i64 x))),.c (.t none (.v (.int .i64 y)))] [] 0 (.c (.t none (.v (.int .i64 (EU x y))))):=by
 refine S7 Tryz.func181 fun w S=>?_
 refine t9<|rA<|P8 ?_
 refine rM ?_
 refine d9 (n9 0 0 false (H9 Tryz.func211) (aY x) rfl (.cons rfl (.c .t0) .nil) rfl rfl rfl) ?_
 refine rA<|P8 ?_
 refine rM ?_
 refine d9 (n9 0 0 false (H9 Tryz.func211) (aY y) rfl (.cons rfl (.c .t0) .nil) rfl rfl rfl) ?_
 refine rA<|c9<|k9<|t9 ?_
 refine rM<|c9 ?_
 refine j9 rfl (C9 rfl) (fun _=>?_)
 refine m9<|k9<|t9<|rM<|c9 ?_
 refine j9 rfl (C9 rfl) (fun _=>?_)
 refine m9<|k9<|t9<|rM ?_
 refine rM ?_
 refine rB<|c9 ?_
 refine j9 rfl (fun h1=>?_) (fun h1=>?_)
 ·
  have h1':=a8 h1
  refine t9<|rA<|c9 ?_
  refine tk Tryz.func181 (.tmp rfl .nil) ?_
  all_goals(refine XX ?_;unfold EU;(rw [if_pos (by assumption)];done))
 ·
  have h1':=d8 h1
  refine m9<|k9<|t9<|rM ?_
  refine rM ?_
  refine rB<|c9 ?_
  refine j9 rfl (fun h2=>?_) (fun h2=>?_)
  ·
   have h2':=a8 h2
   refine t9<|rA<|c9 ?_
   refine tk Tryz.func181 (.tmp rfl .nil) ?_
   all_goals(refine XX ?_;unfold EU;(rw [if_neg (by assumption),if_pos (by omega)];done))
  ·
   have h2':=d8 h2
   refine m9<|t9<|rA<|c9 ?_
   refine tk Tryz.func181 (.tmp rfl .nil) ?_
   all_goals(refine XX ?_;unfold EU;(rw [if_neg (by assumption),if_neg (by omega)];done))
theorem G0 (a b:List Int)(ha:a.length≤4611686018427387904)(hb:b.length≤4611686018427387904):Pu Tryz.prog 182 [.c (.t none (.sl 1 f9 a)),.c (.t none (.sl 1 f9 b))] [] 0 (.c (.t none (.v (.int .i64 (Q6 a b))))):=by
 refine S7 Tryz.func182 fun w S=>?_
 refine t9<|rA<|c9<|k9<|t9 ?_
 refine rM ?_
 refine d9 (P9 rfl rfl rfl) ?_
 refine rM<|c9<|p9 ?_
 refine J9 (fun m=>⟨[(0,some (.c (.t none (.sl 1 f9 a)))),(1,some (.c (.t none (.sl 1 f9 b)))),(9,some (.c (.t none (.sl 1 f9 a)))),(10,some (.c (.t none (.v (.int .i64 ((a.length:Int))))))),(11,some (.c (.t none (.v (.int .i64 ((m:Int)))))))],[],0⟩:Nat→St) (fun m=>m≤a.length∧m≤b.length∧a.take m=b.take m) (fun m=>a.length - m) 0 ⟨⟨rfl,⟨rfl,⟨rfl,⟨rfl,⟨rfl,trivial⟩⟩⟩⟩⟩,trivial,rfl⟩ (by exact⟨Nat.zero_le _,Nat.zero_le _,rfl⟩) ?_
 rintro m hI ih0
 try dsimp only at hI ih0
 obtain⟨i1,i2,i3⟩:=hI
 refine t9<|rB<|c9<|k9 ?_
 refine j9 rfl (fun h1=>?_) (fun h1=>?_)
 ·
  have h1':=a8 h1
  refine m9<|k9<|p9<|t9<|rM ?_
  obtain⟨z2,hz3,b4⟩:=v9 (xs:=a) (n:=(m:Int)) (by omega) (by omega)
  refine d9 (Q9 rfl (by kernel_rfl) rfl rfl b4 hz3) ?_
  refine d9 (i8 rfl (by kernel_rfl) rfl rfl) ?_
  refine rA ?_
  refine rA<|c9<|k9<|t9 ?_
  refine rM ?_
  refine rM ?_
  refine d9 (P9 rfl rfl rfl) ?_
  refine rB<|c9 ?_
  refine j9 rfl (fun h5=>?_) (fun h5=>?_)
  ·
   have h5':=a8 h5
   refine t9<|rA<|c9 ?_
   refine tk Tryz.func182 (.tmp rfl .nil) ?_ <;>(try clear ih0)
   all_goals(refine XX ?_;(rw [(c4 i3 i1 i2).2.1 (by omega) (by omega)];done))
  ·
   have h5':=d8 h5
   refine m9<|t9<|rM ?_
   refine rM ?_
   obtain⟨z6,hz7,b8⟩:=v9 (xs:=b) (n:=(m:Int)) (by omega) (by omega)
   refine d9 (Q9 rfl (by kernel_rfl) rfl rfl b8 hz7) ?_
   refine d9 (i8 rfl (by kernel_rfl) rfl rfl) ?_
   refine rA<|P8 ?_
   refine rM ?_
   refine rM ?_
   refine d9 (n9 0 0 false (H9 Tryz.func181) (eZ z2 z6) rfl (.cons rfl (.c .t0) (.cons rfl (.c .t0) .nil)) rfl rfl rfl) ?_
   refine rA<|P8 ?_
   refine rM ?_
   refine rB<|c9 ?_
   refine j9 rfl (fun h9=>?_) (fun h9=>?_)
   ·
    have h9':=a8 h9
    refine t9<|rM ?_
    refine rA<|c9 ?_
    refine tk Tryz.func182 (.tmp rfl .nil) ?_ <;>(try clear ih0)
    all_goals(refine XX ?_;(exact gM i3 (by assumption) (by assumption) (by omega)))
   ·
    have h9':=d8 h9
    refine m9<|i9<|l9<|rB ?_
    refine rM<|c9 ?_
    refine Z9 ?_ (ih0 (m + 1) (by(try dsimp only);omega) (by(try dsimp only);exact⟨by omega,by omega,U0 i3 (YX (by assumption) (by assumption) (qI (by omega)))⟩))
    exact⟨⟨rfl,⟨rfl,⟨rfl,⟨rfl,⟨(L7 (n8 (by omega) (by omega))),trivial⟩⟩⟩⟩⟩,trivial,rfl⟩
 ·
  have h1':=d8 h1
  refine N9 rfl<|k9<|t9<|rM ?_
  refine d9 (P9 rfl rfl rfl) ?_
  refine rM ?_
  refine d9 (P9 rfl rfl rfl) ?_
  refine rB<|c9 ?_
  refine j9 rfl (fun h10=>?_) (fun h10=>?_)
  ·
   have h10':=a8 h10
   refine t9<|rA<|c9 ?_
   refine tk Tryz.func182 (.tmp rfl .nil) ?_ <;>(try clear ih0)
   all_goals(refine XX ?_;(rw [(c4 i3 i1 i2).1 (by omega) (by omega)];done))
  ·
   have h10':=d8 h10
   refine m9<|t9<|rA<|c9 ?_
   refine tk Tryz.func182 (.tmp rfl .nil) ?_ <;>(try clear ih0)
   all_goals(refine XX ?_;(rw [(c4 i3 i1 i2).2.2 (by omega) (by omega)];done))
theorem pS (l:List Int)(hl:l.length≤4611686018427387904):Pu Tryz.prog 180 [.c (.t none (.sl 1 f9 l))] [] 0 (.c (.t none (.v (.int .i64 (TL l))))):=by
 refine S7 Tryz.func180 fun w S=>?_
 refine t9<|rA<|P8 ?_
 refine rA<|c9<|k9<|t9 ?_
 refine rM ?_
 refine d9 (P9 rfl rfl rfl) ?_
 refine rM<|c9<|p9 ?_
 refine J9 (fun m=>⟨[(3,some (.c (.t none (.v (.int .i64 0))))),(6,some (.c (.t none (.sl 1 f9 l)))),(7,some (.c (.t none (.v (.int .i64 ((l.length:Int))))))),(8,some (.c (.t none (.v (.int .i64 ((m:Int)))))))],[],0⟩:Nat→St) (fun m=>m≤l.length∧∀j y,j < m→l[j]? =some y→y=0) (fun m=>l.length - m) 0 ⟨⟨rfl,⟨rfl,⟨rfl,⟨rfl,trivial⟩⟩⟩⟩,trivial,rfl⟩ (by exact⟨Nat.zero_le _,fun j z h=>by omega⟩) ?_
 rintro m hI ih0
 try dsimp only at hI ih0
 obtain⟨i1,i2⟩:=hI
 refine t9<|rB<|c9<|k9 ?_
 refine j9 rfl (fun h1=>?_) (fun h1=>?_)
 ·
  have h1':=a8 h1
  refine m9<|k9<|p9<|t9 ?_
  obtain⟨z2,hz3,b4⟩:=v9 (xs:=l) (n:=(m:Int)) (by omega) (by omega)
  refine d9 (Q9 rfl (by kernel_rfl) rfl rfl b4 hz3) ?_
  refine d9 (i8 rfl (by kernel_rfl) rfl rfl) ?_
  refine rA<|P8 ?_
  refine rM ?_
  refine rM ?_
  refine rB<|c9 ?_
  refine j9 rfl (fun h5=>?_) (fun h5=>?_)
  ·
   have h5':=a8 h5
   refine t9<|rM ?_
   refine rA<|c9 ?_
   refine tk Tryz.func180 (.tmp rfl .nil) ?_ <;>(try clear ih0)
   all_goals(refine XX ?_;(rw [UM i2 (by assumption) (by omega)];done))
  ·
   have h5':=d8 h5
   refine m9<|i9<|l9<|rB ?_
   refine rM<|c9 ?_
   refine Z9 ?_ (ih0 (m + 1) (by(try dsimp only);omega) (by(try dsimp only);exact⟨by omega,nM i2 (by assumption) rfl (by omega)⟩))
   exact⟨⟨rfl,⟨rfl,⟨rfl,⟨(L7 (n8 (by omega) (by omega))),trivial⟩⟩⟩⟩,trivial,rfl⟩
 ·
  have h1':=d8 h1
  refine N9 rfl<|t9<|rM ?_
  refine rA<|c9 ?_
  refine tk Tryz.func180 (.tmp rfl .nil) ?_ <;>(try clear ih0)
  all_goals(refine XX ?_;(rw [CP fun j y hj hy=>i2 j y (by omega) hy];done))
theorem l0 (r:Int)(l:List Int)(r2:Int)(l2:List Int)(hl:l.length≤1048576)(hl2:l2.length≤1048576):Pu Tryz.prog 133 [.agg [.t none (.v (.int .i64 r)),.t none (.sl 1 f9 l)],.agg [.t none (.v (.int .i64 r2)),.t none (.sl 1 f9 l2)]] [] 0 (.c (.t none (.v (.int .i64 (W8 (r,l) (r2,l2)))))):=by
 refine S7 Tryz.func133 fun w S=>?_
 refine t9 ?_
 refine d9 (m8 0 rfl rfl rfl rfl) ?_
 refine d9 (m8 1 rfl rfl rfl rfl) ?_
 refine rA<|c9<|k9 ?_
 refine tY ?_
 refine dT 0 rfl (pF 0) ?_
 refine dT 1 rfl pL ?_
 refine dT 2 rfl (pF 0) ?_
 refine dT 3 rfl pL ?_
 refine dT 5 rfl (pF 1) ?_
 refine dT 6 rfl pL ?_
 refine dT 7 rfl (pF 1) ?_
 refine dT 8 rfl pL ?_
 refine dO 4 rfl (n9 2 2 false (H9 Tryz.func181) (eZ r r2) rfl (.cons rfl (.c .t0) (.cons rfl (.c .t0) .nil)) rfl rfl rfl) ?_
 refine dO 9 rfl (n9 2 2 false (H9 Tryz.func182) (G0 l l2 (by omega) (by omega)) rfl (.cons rfl (.c .t0) (.cons rfl (.c .t0) .nil)) rfl rfl rfl) ?_
 refine dO 10 rfl (w8 2 (e:=3) (sz:=1) (zs:=[.int .i64 0]) rfl rfl (by kernel_rfl) rfl rfl rfl rfl rfl) ?_
 refine dO 11 rfl (n9 3 3 false (H9 Tryz.func180) (pS ([EU r r2,Q6 l l2]) (by(simp;done))) rfl (.cons rfl (.c (.bsl rfl rfl (.cons .t (.cons .t .nil)))) .nil) rfl rfl rfl) ?_
 refine dT 12 rfl pA ?_
 refine dE ?_
 refine tk Tryz.func133 (.tmp rfl .nil) ?_
 all_goals(refine XX ?_;exact XJ (r,l) (r2,l2))
theorem C4 (v:Int)(hv: -9223372036854775808≤v)(hv2:v≤9223372036854775807):Pu Tryz.prog 139 [.c (.t none (.v (.int .i64 v)))] [] 0 (.tup [(false,[.t none (.v (.int .i64 (if -40≤v∧v≤ -1 then -1 - v else 0)))]),(false,[.t none (.v (.bool (decide (-40≤v∧v≤ -1))))])]):=by
 refine S7 Tryz.func139 fun w S=>?_
 refine t9<|rA ?_
 refine rA<|c9<|k9<|t9 ?_
 refine rM ?_
 refine rB ?_
 refine d9 (n9 0 0 false (H9 Tryz.func157) (L6 (IntKind.i64.wrap ((-1) - v)) 0 39) rfl (.cons rfl (.c .t0) (.cons rfl (.c .t0) (.cons rfl (.c .t0) .nil))) rfl rfl rfl) ?_
 refine d9 (E8 rfl rfl) ?_
 refine c9 ?_
 refine j9 rfl (fun h1=>?_) (fun h1=>?_)
 ·
  have h1':=d8 (d4 h1)
  refine t9<|rA ?_
  refine rA<|c9 ?_
  refine tk Tryz.func139 (.tmp rfl (.tmp rfl .nil)) ?_
  all_goals(((have hn:¬(-40≤v∧v≤ -1):=by(simp only [IntKind.wrap_i64] at *;omega));(simp [hn];done)))
 ·
  have h1':=a8 (Y5 h1)
  refine m9<|t9<|rM ?_
  refine rB ?_
  refine rA ?_
  refine rA<|c9 ?_
  refine tk Tryz.func139 (.tmp rfl (.tmp rfl .nil)) ?_
  all_goals(((have hn:(-40≤v∧v≤ -1):=by(simp only [IntKind.wrap_i64] at *;omega));(have e:IntKind.i64.wrap (-1 - v)= -1 - v:=n8 (by omega) (by omega));(simp [hn,e];done)))
def Tryz.sortL_ren : Go.Shelf.Ren := ⟨fun | 5 => 161 | 8 => 191 | 7 => 200 | 19 => 228 | 20 => 229 | 10 => 234 | 11 => 235 | 12 => 236 | 13 => 237 | 14 => 238 | 15 => 239 | 16 => 240 | 17 => 241 | 18 => 242 | 30 => 260 | 31 => 252 | 32 => 253 | 33 => 261 | 34 => 262 | 35 => 211 | 40 => 269 | n => n, fun | 23 => 31 | 25 => 3 | 3 => 3 | 32 => 170 | 22 => 31 | 0 => 0 | 44 => 216 | 46 => 218 | 4 => 4 | 36 => 210 | 35 => 209 | 41 => 107 | 5 => 5 | 9 => 9 | 53 => 233 | 57 => 237 | 63 => 253 | 64 => 254 | n => n, fun | n => n⟩
theorem Tryz.sortL : Go.Proofs.SlLaysM.n5 Tryz.prog Tryz.sortL_ren := {
 mixed := by kernel_rfl
 f5 := ⟨Tryz.f161.name, by decide, Tryz.func161.trans (congrArg some (by kernel_rfl))⟩
 f7 := ⟨Tryz.f200.name, by decide, Tryz.func200.trans (congrArg some (by kernel_rfl))⟩
 f8 := Tryz.func191.trans (congrArg some (by kernel_rfl))
 f10 := ⟨Tryz.f234.name, by decide, Tryz.func234.trans (congrArg some (by kernel_rfl))⟩
 f11 := ⟨Tryz.f235.name, by decide, Tryz.func235.trans (congrArg some (by kernel_rfl))⟩
 f12 := ⟨Tryz.f236.name, by decide, Tryz.func236.trans (congrArg some (by kernel_rfl))⟩
 f13 := ⟨Tryz.f237.name, by decide, Tryz.func237.trans (congrArg some (by kernel_rfl))⟩
 f14 := ⟨Tryz.f238.name, by decide, Tryz.func238.trans (congrArg some (by kernel_rfl))⟩
 f15 := ⟨Tryz.f239.name, by decide, Tryz.func239.trans (congrArg some (by kernel_rfl))⟩
 f16 := ⟨Tryz.f240.name, by decide, Tryz.func240.trans (congrArg some (by kernel_rfl))⟩
 f17 := ⟨Tryz.f241.name, by decide, Tryz.func241.trans (congrArg some (by kernel_rfl))⟩
 f18 := ⟨Tryz.f242.name, by decide, Tryz.func242.trans (congrArg some (by kernel_rfl))⟩
 f19 := Tryz.func228.trans (congrArg some (by kernel_rfl))
 f20 := Tryz.func229.trans (congrArg some (by kernel_rfl))
 f30 := ⟨Tryz.f260.name, by decide, Tryz.func260.trans (congrArg some (by kernel_rfl))⟩
 f31 := Tryz.func252.trans (congrArg some (by kernel_rfl))
 f32 := Tryz.func253.trans (congrArg some (by kernel_rfl))
 f33 := ⟨Tryz.f261.name, by decide, Tryz.func261.trans (congrArg some (by kernel_rfl))⟩
 f34 := ⟨Tryz.f262.name, by decide, Tryz.func262.trans (congrArg some (by kernel_rfl))⟩
 f35 := ⟨Tryz.f211.name, by decide, Tryz.func211.trans (congrArg some (by kernel_rfl))⟩
 f40 := ⟨Tryz.f269.name, by decide, Tryz.func269.trans (congrArg some (by kernel_rfl))⟩
 t0 := Tryz.underlying0
 a0 := Tryz.isAgg0
 z0 := Tryz.sizeOf0
 v0 := Tryz.zeroValue0
 t3 := Tryz.underlying3
 a3 := Tryz.isAgg3
 z3 := Tryz.sizeOf3
 v3 := Tryz.zeroValue3
 t4 := Tryz.underlying4
 a4 := Tryz.isAgg4
 z4 := Tryz.sizeOf4
 v4 := Tryz.zeroValue4
 t5 := Tryz.underlying5
 a5 := Tryz.isAgg5
 z5 := Tryz.sizeOf5
 v5 := Tryz.zeroValue5
 t9 := Tryz.underlying9
 a9 := Tryz.isAgg9
 z9 := Tryz.sizeOf9
 v9 := Tryz.zeroValue9
 t22 := Tryz.underlying31
 a22 := Tryz.isAgg31
 z22 := Tryz.sizeOf31
 v22 := Tryz.zeroValue31
 t23 := Tryz.underlying31
 a23 := Tryz.isAgg31
 z23 := Tryz.sizeOf31
 v23 := Tryz.zeroValue31
 t25 := Tryz.underlying3
 a25 := Tryz.isAgg3
 z25 := Tryz.sizeOf3
 v25 := Tryz.zeroValue3
 t32 := Tryz.underlying170
 a32 := Tryz.isAgg170
 z32 := Tryz.sizeOf170
 v32 := Tryz.zeroValue170
 t35 := Tryz.underlying209
 a35 := Tryz.isAgg209
 z35 := Tryz.sizeOf209
 v35 := Tryz.zeroValue209
 t36 := Tryz.underlying210
 a36 := Tryz.isAgg210
 z36 := Tryz.sizeOf210
 v36 := Tryz.zeroValue210
 t41 := Tryz.underlying107
 a41 := Tryz.isAgg107
 z41 := Tryz.sizeOf107
 v41 := Tryz.zeroValue107
 t44 := Tryz.underlying216
 a44 := Tryz.isAgg216
 z44 := Tryz.sizeOf216
 v44 := Tryz.zeroValue216
 t46 := Tryz.underlying218
 a46 := Tryz.isAgg218
 z46 := Tryz.sizeOf218
 v46 := Tryz.zeroValue218
 t53 := Tryz.underlying233
 a53 := Tryz.isAgg233
 z53 := Tryz.sizeOf233
 v53 := Tryz.zeroValue233
 t57 := Tryz.underlying237
 a57 := Tryz.isAgg237
 z57 := Tryz.sizeOf237
 v57 := Tryz.zeroValue237
 t63 := Tryz.underlying253
 a63 := Tryz.isAgg253
 z63 := Tryz.sizeOf253
 v63 := Tryz.zeroValue253
 t64 := Tryz.underlying254
 a64 := Tryz.isAgg254
 z64 := Tryz.sizeOf254
 v64 := Tryz.zeroValue254 }
theorem n3 (U:Nat→Value)(e0:Nat)(l:List Int)(hl:l.length≤1099511627776):Mu Tryz.prog 161 [.c (.own 0)] [(0,some (.row (some (U 0)) e0 true 1 f9 l))] 1 [(0,some (.row (some (U 0)) e0 true 1 f9 (C0 l)))] 1 (.tup []):=by
 exact iI Tryz.sortL U e0 l (by omega)
theorem B4 (U:Nat→Value)(e0:Nat)(l:List Int)(hl:l.length≤4611686018427387904):Mu Tryz.prog 162 [.c (.own 0)] [(0,some (.row (some (U 0)) e0 true 1 f9 l))] 1 [(0,some (.row none e0 true 1 f9 (O8 l)))] 1 (.c (.own 0)):=by
 refine sT Tryz.func162 rfl (Nat.le_of_ble_eq_true rfl) fun w S M=>?_
 refine t9<|rA<|c9<|k9<|t9 ?_
 refine rM ?_
 refine d9 (A7 rfl rfl rfl rfl) ?_
 refine rB<|c9 ?_
 refine j9 rfl (fun h1=>?_) (fun h1=>?_)
 ·
  have h1':=a8 h1
  refine t9<|rM ?_
  refine rA<|c9 ?_
  refine eY 0 rfl ?_
  refine nN Tryz.func162 (.tmp rfl .nil) ?_ (hL:=⟨Q8 ?_,trivial⟩) <;>(try clear ih0) <;>(try clear ih1)
  all_goals first | rfl | ((match l with | []=>rfl | [_]=>rfl | _::_::_=>(exfalso;simp at *;omega)))
 ·
  have h1':=d8 h1
  refine m9<|k9<|t9<|rA<|c9<|p9 ?_
  refine J9 (fun m=>⟨[(0,some (.c (.own 0))),(3,some (.c (.t none (.v (.int .i64 ((m:Int)))))))],[(0,some (.row (some (U 0)) e0 true 1 f9 l))],1⟩:Nat→St) (fun m=>1≤m∧m≤l.length∧O8 (l.take m)=l.take m) (fun m=>l.length - m) 1 ⟨⟨rfl,⟨(L7 rfl),trivial⟩⟩,⟨rfl,trivial⟩,rfl⟩ (by exact⟨Nat.le_refl _,by omega,by(rcases l with _ | ⟨x,l⟩ <;> simp [O8])⟩) ?_
  rintro m hI ih0
  try dsimp only at hI ih0
  obtain⟨i1,i2,i3⟩:=hI
  refine k9<|t9<|rM ?_
  refine rM ?_
  refine d9 (A7 rfl rfl rfl rfl) ?_
  refine rB<|c9 ?_
  refine j9 rfl (fun h2=>?_) (fun h2=>?_)
  ·
   have h2':=a8 h2
   refine m9<|k9<|p9<|k9 ?_
   refine tY ?_
   refine dT 0 rfl pM ?_
   refine dT 1 rfl pM ?_
   obtain⟨z3,hz4,b5⟩:=v9 (xs:=l) (n:=(m:Int)) (by omega) (by omega)
   refine dT 2 rfl (V9 (by kernel_rfl) rfl rfl rfl b5 (f8 b5 hz4)) ?_
   refine dT 3 rfl (M8 (by kernel_rfl) rfl rfl rfl hz4) ?_
   refine dT 4 rfl pM ?_
   refine dT 5 rfl pM ?_
   refine dT 6 rfl pB ?_
   obtain⟨z6,hz7,b8⟩:=v9 (xs:=l) (n:=IntKind.i64.wrap ((m:Int) - 1)) (by(simp only [IntKind.wrap_i64];omega)) (by(simp only [IntKind.wrap_i64];omega))
   refine dT 7 rfl (V9 (by kernel_rfl) rfl rfl rfl b8 (f8 b8 hz7)) ?_
   refine dT 8 rfl (M8 (by kernel_rfl) rfl rfl rfl hz7) ?_
   refine dT 9 rfl pB ?_
   refine dE ?_
   refine j9 rfl (fun h9=>?_) (fun h9=>?_)
   ·
    have h9':=a8 h9
    refine t9<|rM ?_
    refine rM ?_
    refine d9 (JU rfl (by kernel_rfl) rfl rfl rfl (by omega) (by omega)) ?_
    refine rA<|c9<|k9<|t9 ?_
    refine rA<|c9<|p9 ?_
    refine J9 (fun(j,k,q)=>⟨[(0,some (.c (.own 0))),(3,some (.c (.t none (.v (.int .i64 ((k:Int))))))),(4,some (.c (.vw 0 (((m:Int)).toNat) ((l.length - ((m:Int)).toNat)) 1))),(5,some (.c (.t none (.v (.int .i64 ((j:Int)))))))],[(0,some (.row (some (U 0)) e0 true 1 f9 q))],1⟩:Nat × Nat × List Int→St) (fun(j,k,q)=>1≤j∧aO l q k (m + j)) (fun(j,k,q)=>l.length - j) (1,m,l) ⟨⟨rfl,⟨rfl,⟨rfl,⟨(L7 rfl),trivial⟩⟩⟩⟩,⟨rfl,trivial⟩,rfl⟩ (by exact⟨Nat.le_refl _,kO i3 (by assumption) (by assumption) (by simp only [IntKind.wrap_i64];omega) i1 (by omega)⟩) ?_
    rintro⟨j,k,q⟩ hI ih1
    try dsimp only at hI ih1
    obtain⟨j0,j1⟩:=hI;have j2:=j1.1;have j3:=j1.2.1;have j4:=j1.2.2.1
    refine k9<|t9<|rM ?_
    refine rM ?_
    refine d9 (vL rfl rfl rfl) ?_
    refine rB<|c9 ?_
    refine j9 rfl (fun h10=>?_) (fun h10=>?_)
    ·
     have h10':=a8 h10
     refine m9<|k9<|p9<|k9 ?_
     refine tY ?_
     refine dT 0 rfl pM ?_
     refine dT 1 rfl pM ?_
     obtain⟨z11,hz12⟩:=WR (xs:=q) (n:=(((m:Int)).toNat +((j:Int)).toNat)) (by omega)
     refine dT 2 rfl (fX (by kernel_rfl) rfl rfl (by omega) (by omega)) ?_
     refine dT 3 rfl (M8 (by kernel_rfl) rfl rfl rfl hz12) ?_
     refine dT 4 rfl pM ?_
     refine dT 5 rfl pM ?_
     refine dT 6 rfl pB ?_
     obtain⟨z14,hz15⟩:=WR (xs:=q) (n:=(((m:Int)).toNat +(IntKind.i64.wrap ((j:Int) - 1)).toNat)) (by(simp only [IntKind.wrap_i64];omega))
     refine dT 7 rfl (fX (by kernel_rfl) rfl rfl (by(simp only [IntKind.wrap_i64];omega)) (by(simp only [IntKind.wrap_i64];omega))) ?_
     refine dT 8 rfl (M8 (by kernel_rfl) rfl rfl rfl hz15) ?_
     refine dT 9 rfl pB ?_
     refine dE ?_
     refine j9 rfl (fun h17=>?_) (fun h17=>?_)
     ·
      have h17':=a8 h17
      refine t9<|rM ?_
      refine rM ?_
      refine rM ?_
      refine rM ?_
      refine d9 (IQ rfl (by kernel_rfl) rfl rfl (by omega) (by omega)) ?_
      refine d9 (t8 rfl (by kernel_rfl) rfl rfl rfl hz12) ?_
      obtain⟨z18,hz19,b20⟩:=v9 (xs:=q) (n:=(k:Int)) (by omega) (by omega)
      refine d9 (o8 rfl (by kernel_rfl) rfl rfl rfl b20 (f8 b20 hz19)) ?_
      refine d9 (F8 z11 (n:=1) (by kernel_rfl) rfl rfl hz19 rfl rfl rfl rfl (.cons .sc .nil) rfl (fun j h1 h2=>by(simp at h1 h2;omega))) ?_
      refine EO<|rM ?_
      refine rB ?_
      refine rA<|c9<|i9<|l9 ?_
      refine rM ?_
      refine rB ?_
      refine rA<|c9 ?_
      refine Z9 ?_ (ih1 (j + 1,k + 1,q.set ((k:Int)).toNat z11) (by(try dsimp only);omega) (by(try dsimp only);exact⟨by omega,AM (j:=m + j) (n:=((m:Int)).toNat +(IntKind.i64.wrap ((j:Int) - 1)).toNat) j1 (by assumption) (by assumption) (by simp only [IntKind.wrap_i64];omega) (by omega)⟩))
      exact⟨⟨rfl,⟨(L7 (n8 (by omega) (by omega))),⟨rfl,⟨(L7 (n8 (by omega) (by omega))),trivial⟩⟩⟩⟩,⟨rfl,trivial⟩,rfl⟩
     ·
      have h17':=d8 h17
      refine m9<|i9<|l9<|rM ?_
      refine rB ?_
      refine rA<|c9 ?_
      refine Z9 ?_ (ih1 (j + 1,k,q) (by(try dsimp only);omega) (by(try dsimp only);exact⟨by omega,DM (j:=m + j) (n:=((m:Int)).toNat +(IntKind.i64.wrap ((j:Int) - 1)).toNat) j1 (by assumption) (by assumption) (by simp only [IntKind.wrap_i64];omega) (by omega)⟩))
      exact⟨⟨rfl,⟨rfl,⟨rfl,⟨(L7 (n8 (by omega) (by omega))),trivial⟩⟩⟩⟩,⟨rfl,trivial⟩,rfl⟩
    ·
     have h10':=d8 h10
     refine N9 rfl<|t9<|rM ?_
     refine rM ?_
     refine d9 (JU rfl (by kernel_rfl) rfl rfl rfl (by omega) (by omega)) ?_
     refine d9 (SK 0 rfl rfl Tryz.underlying31 (by kernel_rfl) rfl (.v rfl) (by omega) (by omega)) ?_
     refine P8<|rM ?_
     refine rM ?_
     refine d9 (EN rfl (by kernel_rfl) rfl rfl rfl (by omega) (by(simp only [List.length_append,List.length_take,List.length_replicate,List.length_drop];omega)) (by(simp only [List.length_append,List.length_take,List.length_replicate,List.length_drop];omega))) ?_
     refine rA<|c9 ?_
     refine fM 2 0 rfl rfl (by(simp only [List.length_append,List.length_take,List.length_replicate,List.length_drop];omega)) (by(simp only [List.length_append,List.length_take,List.length_replicate,List.length_drop];omega)) ?_
     refine nN Tryz.func162 (.tmp rfl .nil) ?_ (hL:=⟨Q8 ?_,trivial⟩) <;>(try clear ih0) <;>(try clear ih1)
     all_goals first | rfl | (rw [List.append_assoc];exact wL j1 (by omega))
   ·
    have h9':=d8 h9
    refine m9<|i9<|l9<|rM ?_
    refine rB ?_
    refine rA<|c9 ?_
    refine Z9 ?_ (ih0 (m + 1) (by(try dsimp only);omega) (by(try dsimp only);exact⟨by omega,by omega,xM i3 (by assumption) (by assumption) (by simp only [IntKind.wrap_i64];omega) i1 (by omega)⟩))
    exact⟨⟨rfl,⟨(L7 (n8 (by omega) (by omega))),trivial⟩⟩,⟨rfl,trivial⟩,rfl⟩
  ·
   have h2':=d8 h2
   refine N9 rfl<|t9<|rM ?_
   refine rA<|c9 ?_
   refine eY 0 rfl ?_
   refine nN Tryz.func162 (.tmp rfl .nil) ?_ (hL:=⟨Q8 ?_,trivial⟩) <;>(try clear ih0) <;>(try clear ih1)
   all_goals first | rfl | (rw [List.take_of_length_le (by omega)] at i3;exact i3.symm)
theorem yX (l:List Int)(hl:l.length≤1048576)(ho:∀x∈l,B7 x):Pu Tryz.prog 105 [.c (.t none (.sl 1 f9 l))] [(0,some (.row none 3 true 1 f9 (O9 (l7 l))))] 1 (.c (.own 0)):=by
 refine S7 Tryz.func105 fun w S=>?_
 refine t9<|rA<|P8 ?_
 refine d9 (c7 0 (e:=3) (sz:=1) (zs:=[.int .i64 0]) f9 rfl rfl (by kernel_rfl) rfl) ?_
 refine rA<|c9<|k9<|t9 ?_
 refine rM ?_
 refine d9 (P9 rfl rfl rfl) ?_
 refine rM<|c9<|p9 ?_
 refine J9 (fun m=>⟨[(2,some (.c (.t none (.v (.slice none 0 0))))),(3,some (.c (.own 0))),(9,some (.c (.t none (.sl 1 f9 l)))),(10,some (.c (.t none (.v (.int .i64 ((l.length:Int))))))),(11,some (.c (.t none (.v (.int .i64 ((m:Int)))))))],[(0,some (.row none 3 true 1 f9 (l7 (l.take m))))],1⟩:Nat→St) (fun m=>m≤l.length) (fun m=>l.length - m) 0 ⟨⟨rfl,⟨rfl,⟨rfl,⟨rfl,⟨rfl,trivial⟩⟩⟩⟩⟩,⟨rfl,trivial⟩,rfl⟩ (by exact Nat.zero_le _) ?_
 rintro m hI ih0
 try dsimp only at hI ih0
 have i1:=hI;have q2:=LS l m
 refine t9<|rB<|c9<|k9 ?_
 refine j9 rfl (fun h1=>?_) (fun h1=>?_)
 ·
  have h1':=a8 h1
  refine m9<|k9<|p9<|t9 ?_
  obtain⟨z2,hz3,b4⟩:=v9 (xs:=l) (n:=(m:Int)) (by omega) (by omega)
  refine d9 (Q9 rfl (by kernel_rfl) rfl rfl b4 hz3) ?_
  refine d9 (i8 rfl (by kernel_rfl) rfl rfl) ?_
  refine rA<|P8 ?_
  refine rM ?_
  refine d9 (n9 1 1 false (H9 Tryz.func139) (C4 z2 (by exact(ho _ (D8 (by assumption))).1) (by exact(ho _ (D8 (by assumption))).2)) rfl (.cons rfl (.c .t0) .nil) rfl rfl rfl) ?_
  refine rM ?_
  refine d9 (D9 rfl rfl rfl rfl) ?_
  refine d9 (D9 rfl rfl rfl rfl) ?_
  refine rA ?_
  refine rA<|P8 ?_
  refine rM<|c9 ?_
  refine j9 rfl (fun h5=>?_) (fun h5=>?_)
  ·
   have h5':=a8 h5
   refine l9<|rM ?_
   refine rM ?_
   refine d9 (w8 1 (e:=3) (sz:=1) (zs:=[.int .i64 0]) rfl rfl (by kernel_rfl) rfl rfl rfl rfl rfl) ?_
   refine d9 (W9 0 (e:=3) (sz:=1) (by':=8) (if -40≤z2∧z2≤ -1 then -1 - z2 else 0) rfl (by kernel_rfl) rfl rfl rfl rfl rfl rfl (.cons .sc .nil) rfl (by omega) (by omega)) ?_
   refine rA<|c9<|i9<|l9 ?_
   refine rB ?_
   refine rM<|c9 ?_
   refine Z9 ?_ (ih0 (m + 1) (by(try dsimp only);omega) (by(try dsimp only);omega))
   exact⟨⟨rfl,⟨rfl,⟨rfl,⟨rfl,⟨(L7 (n8 (by omega) (by omega))),trivial⟩⟩⟩⟩⟩,⟨(Q8 (by(rw [US (by assumption) (by assumption)];done))),trivial⟩,rfl⟩
  ·
   have h5':=d8 h5
   refine m9<|i9<|l9<|rB ?_
   refine rM<|c9 ?_
   refine Z9 ?_ (ih0 (m + 1) (by(try dsimp only);omega) (by(try dsimp only);omega))
   exact⟨⟨rfl,⟨rfl,⟨rfl,⟨rfl,⟨(L7 (n8 (by omega) (by omega))),trivial⟩⟩⟩⟩⟩,⟨(Q8 (by(rw [lR (by assumption) (by assumption)];done))),trivial⟩,rfl⟩
 ·
  have h1':=d8 h1
  refine N9 rfl<|t9<|rM ?_
  refine d9 (SR [⟨0,none,3,1,_,f9,l7 (l.take m),C0 (l7 (l.take m))⟩] (H9 Tryz.func161) (fun U=>n3 U 3 (l7 (l.take m)) (by omega)) rfl ⟨rfl,trivial⟩ rfl rfl (.cons rfl (.own rfl) .nil) rfl) ?_
  refine P8<|rM ?_
  refine d9 (OX 0 (l':=O8 (C0 (l7 (l.take m)))) (H9 Tryz.func162) (fun U=>B4 U 3 (C0 (l7 (l.take m))) (by(rw [RX];omega))) rfl rfl (.cons rfl (.own rfl) .nil)) ?_
  refine rA<|c9 ?_
  refine tk Tryz.func105 (.tmp rfl .nil) ?_ (hL:=⟨Q8 ?_,trivial⟩) <;>(try clear ih0)
  all_goals first | rfl | ((rw [KQ (by omega),lV]))
theorem iZ (r:Int)(l:List Int)(hl:l.length≤1048576)(ho:∀x∈l,B7 x):Pu Tryz.prog 134 [.agg [.t none (.v (.int .i64 r)),.t none (.sl 1 f9 l)]] [(1,some (.row none 3 true 1 f9 (O9 (l7 l))))] 2 (.c (.own 1)):=by
 refine S7 Tryz.func134 fun w S=>?_
 refine t9 ?_
 refine d9 (m8 0 rfl rfl rfl rfl) ?_
 refine rA<|P8 ?_
 refine rF 1 ?_
 refine rL ?_
 refine d9 (n9 1 2 false (H9 Tryz.func105) (yX l (by omega) (by omega)) rfl (.cons rfl (.c .t0) .nil) rfl rfl rfl) ?_
 refine rA<|c9 ?_
 refine tk Tryz.func134 (.tmp rfl .nil) ?_ (hL:=⟨Q8 ?_,trivial⟩)
 all_goals rfl
theorem I6 (rs:T9)(l:w9)(hrs:rs.length≤4611686018427387904)(hl:N8 (fun(x:Int ×(List Int))=>x.2.length) l≤1048576)(ho:∀z∈l,∀x∈z.2,B7 x):Pu Tryz.prog 69 [.agg [.t none (.sl 3 (j8 Y9 f9 U9) rs),.t none (.sl 2 (y9 f9 (x9 1 f9)) l)]] [] 0 (.c (.t none (.v (.bool (C6 rs l))))):=by
 refine S7 Tryz.func69 fun w S=>?_
 have gl:=I8 (f:=(fun(x:Int ×(List Int))=>x.2.length)) (l:=l)
 refine t9 ?_
 refine d9 (m8 0 rfl rfl rfl rfl) ?_
 refine rA<|c9<|k9<|t9 ?_
 refine rF 0 ?_
 refine rL ?_
 refine d9 (n9 1 1 false (H9 Tryz.func52) (o6 rs (by omega)) rfl (.cons rfl (.c .t0) .nil) rfl rfl rfl) ?_
 refine d9 (E8 rfl rfl) ?_
 refine rM ?_
 refine A9 (fun g1=>?_) (fun g1=>?_)
 ·
  have g1':=(Y5 g1)
  refine rF 1 ?_
  refine A9 (fun _=>?_) (C9 g1)
  refine rL ?_
  refine A9 (fun _=>?_) (C9 g1)
  refine d9 (P9 rfl rfl rfl) ?_
  refine A9 (fun _=>?_) (C9 g1)
  refine rB ?_
  refine d9 (G9 rfl rfl g1 rfl) ?_
  refine c9 ?_
  refine j9 rfl (fun h2=>?_) (fun h2=>?_)
  ·
   have h2':=a8 h2
   refine t9<|rA<|c9 ?_
   refine tk Tryz.func69 (.tmp rfl .nil) ?_ <;>(try clear ih0)
   all_goals(refine K7 ?_;(rw [mR (by clear hl gl ho hrs;grind)];done))
  ·
   have h2':=d8 h2
   refine m9<|k9<|t9<|rF 1 ?_
   refine rL ?_
   refine d9 (P9 rfl rfl rfl) ?_
   refine rM<|c9<|p9 ?_
   refine J9 (fun m=>⟨[(1,some (.c (.ptr 0 0))),(16,some (.c (.t none (.sl 2 (y9 f9 (x9 1 f9)) l)))),(17,some (.c (.t none (.v (.int .i64 ((l.length:Int))))))),(18,some (.c (.t none (.v (.int .i64 ((m:Int)))))))],[(0,some (.box [.t none (.sl 3 (j8 Y9 f9 U9) rs),.t none (.sl 2 (y9 f9 (x9 1 f9)) l)]))],1⟩:Nat→St) (fun m=>m≤l.length∧∀j,j < m→w3 rs l j=true) (fun m=>l.length - m) 0 ⟨⟨rfl,⟨rfl,⟨rfl,⟨rfl,trivial⟩⟩⟩⟩,⟨rfl,trivial⟩,rfl⟩ (by exact⟨Nat.zero_le _,fun j h=>by omega⟩) ?_
   rintro m hI ih0
   try dsimp only at hI ih0
   obtain⟨i1,i2⟩:=hI
   refine t9<|rB<|c9<|k9 ?_
   refine j9 rfl (fun h3=>?_) (fun h3=>?_)
   ·
    have h3':=a8 h3
    refine m9<|k9<|p9<|t9<|rM ?_
    obtain⟨z4,hz5,b6⟩:=v9 (xs:=l) (n:=(m:Int)) (by omega) (by omega)
    refine d9 (Q9 rfl (by kernel_rfl) rfl rfl b6 hz5) ?_
    refine d9 (m6 rfl (n:=2) (by kernel_rfl) (by kernel_rfl) rfl rfl) ?_
    refine d9 (F9 1 (zs:=[.int .i64 0,.slice none 0 0]) rfl rfl (by kernel_rfl) rfl) ?_
    refine rA ?_
    refine rS 2<|c9<|k9<|k9 ?_
    refine tY ?_
    refine dT 0 rfl (pF 0) ?_
    refine dT 1 rfl pL ?_
    refine dT 2 rfl (pC 2) ?_
    refine dO 3 rfl (n9 2 2 false (H9 Tryz.func132) (tW rs z4.1 z4.2 (by omega) (by(have e1:=X7 (f:=(fun(x:Int ×(List Int))=>x.2.length)) (l:=l) (m:=m) (by assumption);(try dsimp only at e1);omega)) (by exact ho _ (D8 (by assumption)))) rfl (.cons rfl (.c .t0) (.cons rfl (.agg (.cons .t0 (.cons .t0 .nil))) .nil)) rfl rfl rfl) ?_
    refine dT 4 rfl (R3 rfl) ?_
    refine dT 5 rfl pM ?_
    refine dH 6 rfl (fun _=>pM) (fun g7=>?_) (fun g7=>?_)
    ·
     have g7':=(Y5 g7)
     refine dH 7 rfl (fun _=>pB) (fun _=>?_) (C9 g7)
     refine dH 8 rfl (fun _=>pM) (fun _=>?_) (C9 g7)
     refine dH 9 rfl (fun _=>pF 1) (fun g8=>?_) (fun g8=>?_)
     ·
      have g8':=a8 g8
      refine dH 10 rfl (fun _=>pL) (fun _=>?_) (nc g8)
      refine dH 11 rfl (fun _=>pM) (fun _=>?_) (nc g8)
      refine dH 12 rfl (fun _=>pB) (fun _=>?_) (nc g8)
      obtain⟨z9,hz10,b11⟩:=v9 (xs:=l) (n:=IntKind.i64.wrap ((m:Int) - 1)) (by(simp only [IntKind.wrap_i64] at *;omega)) (by(simp only [IntKind.wrap_i64] at *;omega))
      refine dH 13 rfl (fun _=>p8 (by kernel_rfl) rfl rfl b11 hz10) (fun _=>?_) (nc g8)
      refine dH 14 rfl (fun _=>p6 (n:=2) (by kernel_rfl) (by kernel_rfl) rfl rfl) (fun _=>?_) (nc g8)
      refine dH 15 rfl (fun _=>pC 2) (fun _=>?_) (nc g8)
      refine C7 16 rfl rfl (by kernel_rfl) rfl rfl rfl (fun _=>(n9 2 2 false (H9 Tryz.func133) (l0 z9.1 z9.2 z4.1 z4.2 (by(have e1:=X7 (f:=(fun(x:Int ×(List Int))=>x.2.length)) (l:=l) (m:=(IntKind.i64.wrap ((m:Int) - 1)).toNat) (by assumption);(try dsimp only at e1);omega)) (by(have e1:=X7 (f:=(fun(x:Int ×(List Int))=>x.2.length)) (l:=l) (m:=m) (by assumption);(try dsimp only at e1);omega))) rfl (.cons rfl (.agg (.cons .t0 (.cons .t0 .nil))) (.cons rfl (.agg (.cons .t0 (.cons .t0 .nil))) .nil)) rfl rfl rfl)) (fun _=>?_) (nc g8)
      refine dH 17 rfl (fun _=>pB) (fun _=>?_) (nc g8)
      refine dH 18 rfl (fun _=>C8 rfl g8 rfl) (fun _=>?_) (C9 g7)
      refine dT 19 rfl (r8 rfl g7 rfl) ?_
      refine dE ?_
      refine j9 rfl (fun h12=>?_) (fun h12=>?_)
      ·
       have h12':=a8 h12
       refine t9<|rA<|c9 ?_
       refine tk Tryz.func69 (.tmp rfl .nil) ?_ <;>(try clear ih0)
       all_goals(refine K7 ?_;(rw [H4 (rs:=rs) (l:=l) (m:=m) (by omega) (by(try(have qb:=Z8 (rs:=rs) (l:=l) (m:=m) hz5 (by assumption)));(try(have qz:=R8 (rs:=rs) (l:=l) (m:=m) hz5 (by omega)));(try(have qp:=a7 (rs:=rs) (l:=l) (m:=m) hz5 (by omega) hz10 (by simp only [IntKind.wrap_i64];omega)));(try(have qS:=y8 (rs:=rs) (r:=z4.1) (ts:=z4.2) hz10));(try(have qT:=y8 (rs:=rs) (r:=z4.1) (ts:=z4.2) (by assumption)));clear hl gl ho hrs;grind)];done))
      ·
       have h12':=d8 h12
       refine m9<|t9<|rF 0 ?_
       refine rL ?_
       refine rF 0 ?_
       refine rL ?_
       obtain⟨z13,hz14,b15⟩:=v9 (xs:=rs) (n:=z4.1) (by exact(M1 (by assumption)).1) (by exact(M1 (by assumption)).2)
       refine d9 (Q9 rfl (by kernel_rfl) rfl rfl b15 hz14) ?_
       refine d9 (wZ rfl (off:=2) (by kernel_rfl) rfl) ?_
       refine d9 (i8 rfl (by kernel_rfl) rfl rfl) ?_
       refine rM ?_
       refine A9 (fun g16=>?_) (fun g16=>?_)
       ·
        have g16':=g16
        refine rC 2 ?_
        refine A9 (fun _=>?_) (nc g16)
        refine d9 (n9 2 4 false (H9 Tryz.func134) (iZ z4.1 z4.2 (by(have e1:=X7 (f:=(fun(x:Int ×(List Int))=>x.2.length)) (l:=l) (m:=m) (by assumption);(try dsimp only at e1);omega)) (by exact ho _ (D8 (by assumption)))) rfl (.cons rfl (.agg (.cons .t0 (.cons .t0 .nil))) .nil) rfl rfl rfl) ?_
        refine A9 (fun _=>?_) (nc g16)
        refine d9 (A7 rfl rfl rfl rfl) ?_
        refine A9 (fun _=>?_) (nc g16)
        refine rB ?_
        refine d9 (M9 rfl rfl g16 rfl) ?_
        refine c9 ?_
        refine j9 rfl (fun h17=>?_) (fun h17=>?_)
        ·
         have h17':=a8 h17
         refine t9<|rA<|c9 ?_
         refine tk Tryz.func69 (.tmp rfl .nil) ?_ <;>(try clear ih0)
         all_goals(refine K7 ?_;(rw [H4 (rs:=rs) (l:=l) (m:=m) (by omega) (by(try(have qb:=Z8 (rs:=rs) (l:=l) (m:=m) hz5 (by assumption)));(try(have qz:=R8 (rs:=rs) (l:=l) (m:=m) hz5 (by omega)));(try(have qp:=a7 (rs:=rs) (l:=l) (m:=m) hz5 (by omega) hz10 (by simp only [IntKind.wrap_i64];omega)));(try(have qS:=y8 (rs:=rs) (r:=z4.1) (ts:=z4.2) hz10));(try(have qT:=y8 (rs:=rs) (r:=z4.1) (ts:=z4.2) hz14));clear hl gl ho hrs;grind)];done))
        ·
         have h17':=d8 h17
         refine m9<|i9<|l9<|rB ?_
         refine rM<|c9 ?_
         refine Z9 ?_ (ih0 (m + 1) (by(try dsimp only);omega) (by(try dsimp only);exact⟨by omega,i6 i2 (by(try(have qb:=Z8 (rs:=rs) (l:=l) (m:=m) hz5 (by assumption)));(try(have qz:=R8 (rs:=rs) (l:=l) (m:=m) hz5 (by omega)));(try(have qp:=a7 (rs:=rs) (l:=l) (m:=m) hz5 (by omega) hz10 (by simp only [IntKind.wrap_i64];omega)));(try(have qS:=y8 (rs:=rs) (r:=z4.1) (ts:=z4.2) hz10));(try(have qT:=y8 (rs:=rs) (r:=z4.1) (ts:=z4.2) hz14));clear hl gl ho hrs;grind)⟩))
         exact⟨⟨rfl,⟨rfl,⟨rfl,⟨(L7 (n8 (by omega) (by omega))),trivial⟩⟩⟩⟩,⟨rfl,trivial⟩,rfl⟩
       ·
        have g16':=g16
        refine A9 (C9 g16) (fun _=>?_)
        refine A9 (C9 g16) (fun _=>?_)
        refine A9 (C9 g16) (fun _=>?_)
        refine d9 (G9 rfl rfl g16 rfl) ?_
        refine c9 ?_
        refine j9 rfl (C9 rfl) (fun _=>?_)
        refine m9<|i9<|l9<|rB ?_
        refine rM<|c9 ?_
        refine Z9 ?_ (ih0 (m + 1) (by(try dsimp only);omega) (by(try dsimp only);exact⟨by omega,i6 i2 (by(try(have qb:=Z8 (rs:=rs) (l:=l) (m:=m) hz5 (by assumption)));(try(have qz:=R8 (rs:=rs) (l:=l) (m:=m) hz5 (by omega)));(try(have qp:=a7 (rs:=rs) (l:=l) (m:=m) hz5 (by omega) hz10 (by simp only [IntKind.wrap_i64];omega)));(try(have qS:=y8 (rs:=rs) (r:=z4.1) (ts:=z4.2) hz10));(try(have qT:=y8 (rs:=rs) (r:=z4.1) (ts:=z4.2) hz14));clear hl gl ho hrs;grind)⟩))
        exact⟨⟨rfl,⟨rfl,⟨rfl,⟨(L7 (n8 (by omega) (by omega))),trivial⟩⟩⟩⟩,⟨rfl,trivial⟩,rfl⟩
     ·
      have g8':=d8 g8
      refine dG 10 (C9 g8) (fun _=>?_)
      refine dG 11 (C9 g8) (fun _=>?_)
      refine dG 12 (C9 g8) (fun _=>?_)
      refine dG 13 (C9 g8) (fun _=>?_)
      refine dG 14 (C9 g8) (fun _=>?_)
      refine dG 15 (C9 g8) (fun _=>?_)
      refine dG 16 (C9 g8) (fun _=>?_)
      refine dG 17 (C9 g8) (fun _=>?_)
      refine dH 18 rfl (fun _=>r8 rfl g8 rfl) (fun _=>?_) (C9 g7)
      refine dT 19 rfl (r8 rfl g7 rfl) ?_
      refine dE ?_
      refine j9 rfl (C9 rfl) (fun _=>?_)
      refine m9<|t9<|rF 0 ?_
      refine rL ?_
      refine rF 0 ?_
      refine rL ?_
      obtain⟨z18,hz19,b20⟩:=v9 (xs:=rs) (n:=z4.1) (by exact(M1 (by assumption)).1) (by exact(M1 (by assumption)).2)
      refine d9 (Q9 rfl (by kernel_rfl) rfl rfl b20 hz19) ?_
      refine d9 (wZ rfl (off:=2) (by kernel_rfl) rfl) ?_
      refine d9 (i8 rfl (by kernel_rfl) rfl rfl) ?_
      refine rM ?_
      refine A9 (fun g21=>?_) (fun g21=>?_)
      ·
       have g21':=g21
       refine rC 2 ?_
       refine A9 (fun _=>?_) (nc g21)
       refine d9 (n9 2 4 false (H9 Tryz.func134) (iZ z4.1 z4.2 (by(have e1:=X7 (f:=(fun(x:Int ×(List Int))=>x.2.length)) (l:=l) (m:=m) (by assumption);(try dsimp only at e1);omega)) (by exact ho _ (D8 (by assumption)))) rfl (.cons rfl (.agg (.cons .t0 (.cons .t0 .nil))) .nil) rfl rfl rfl) ?_
       refine A9 (fun _=>?_) (nc g21)
       refine d9 (A7 rfl rfl rfl rfl) ?_
       refine A9 (fun _=>?_) (nc g21)
       refine rB ?_
       refine d9 (M9 rfl rfl g21 rfl) ?_
       refine c9 ?_
       refine j9 rfl (fun h22=>?_) (fun h22=>?_)
       ·
        have h22':=a8 h22
        refine t9<|rA<|c9 ?_
        refine tk Tryz.func69 (.tmp rfl .nil) ?_ <;>(try clear ih0)
        all_goals(refine K7 ?_;(rw [H4 (rs:=rs) (l:=l) (m:=m) (by omega) (by(try(have qb:=Z8 (rs:=rs) (l:=l) (m:=m) hz5 (by assumption)));(try(have qz:=R8 (rs:=rs) (l:=l) (m:=m) hz5 (by omega)));(try(have qp:=a7 (rs:=rs) (l:=l) (m:=m) hz5 (by omega) hz19 (by simp only [IntKind.wrap_i64];omega)));(try(have qS:=y8 (rs:=rs) (r:=z4.1) (ts:=z4.2) hz19));(try(have qT:=y8 (rs:=rs) (r:=z4.1) (ts:=z4.2) (by assumption)));clear hl gl ho hrs;grind)];done))
       ·
        have h22':=d8 h22
        refine m9<|i9<|l9<|rB ?_
        refine rM<|c9 ?_
        refine Z9 ?_ (ih0 (m + 1) (by(try dsimp only);omega) (by(try dsimp only);exact⟨by omega,i6 i2 (by(try(have qb:=Z8 (rs:=rs) (l:=l) (m:=m) hz5 (by assumption)));(try(have qz:=R8 (rs:=rs) (l:=l) (m:=m) hz5 (by omega)));(try(have qp:=a7 (rs:=rs) (l:=l) (m:=m) hz5 (by omega) hz19 (by simp only [IntKind.wrap_i64];omega)));(try(have qS:=y8 (rs:=rs) (r:=z4.1) (ts:=z4.2) hz19));(try(have qT:=y8 (rs:=rs) (r:=z4.1) (ts:=z4.2) (by assumption)));clear hl gl ho hrs;grind)⟩))
        exact⟨⟨rfl,⟨rfl,⟨rfl,⟨(L7 (n8 (by omega) (by omega))),trivial⟩⟩⟩⟩,⟨rfl,trivial⟩,rfl⟩
      ·
       have g21':=g21
       refine A9 (C9 g21) (fun _=>?_)
       refine A9 (C9 g21) (fun _=>?_)
       refine A9 (C9 g21) (fun _=>?_)
       refine d9 (G9 rfl rfl g21 rfl) ?_
       refine c9 ?_
       refine j9 rfl (C9 rfl) (fun _=>?_)
       refine m9<|i9<|l9<|rB ?_
       refine rM<|c9 ?_
       refine Z9 ?_ (ih0 (m + 1) (by(try dsimp only);omega) (by(try dsimp only);exact⟨by omega,i6 i2 (by(try(have qb:=Z8 (rs:=rs) (l:=l) (m:=m) hz5 (by assumption)));(try(have qz:=R8 (rs:=rs) (l:=l) (m:=m) hz5 (by omega)));(try(have qp:=a7 (rs:=rs) (l:=l) (m:=m) hz5 (by omega) hz19 (by simp only [IntKind.wrap_i64];omega)));(try(have qS:=y8 (rs:=rs) (r:=z4.1) (ts:=z4.2) hz19));(try(have qT:=y8 (rs:=rs) (r:=z4.1) (ts:=z4.2) (by assumption)));clear hl gl ho hrs;grind)⟩))
       exact⟨⟨rfl,⟨rfl,⟨rfl,⟨(L7 (n8 (by omega) (by omega))),trivial⟩⟩⟩⟩,⟨rfl,trivial⟩,rfl⟩
    ·
     have g7':=(d4 g7)
     refine dG 7 (nc g7) (fun _=>?_)
     refine dG 8 (nc g7) (fun _=>?_)
     refine dK 9 ?_
     refine dK 10 ?_
     refine dK 11 ?_
     refine dK 12 ?_
     refine dK 13 ?_
     refine dK 14 ?_
     refine dK 15 ?_
     refine dK 16 ?_
     refine dK 17 ?_
     refine dG 18 (nc g7) (fun _=>?_)
     refine dT 19 rfl (C8 rfl g7 rfl) ?_
     refine dE ?_
     refine j9 rfl (fun _=>?_) (nc rfl)
     refine t9<|rA<|c9 ?_
     refine tk Tryz.func69 (.tmp rfl .nil) ?_ <;>(try clear ih0)
     all_goals(refine K7 ?_;(rw [H4 (rs:=rs) (l:=l) (m:=m) (by omega) (by(try(have qb:=Z8 (rs:=rs) (l:=l) (m:=m) hz5 (by assumption)));(try(have qz:=R8 (rs:=rs) (l:=l) (m:=m) hz5 (by omega)));(try(have qp:=a7 (rs:=rs) (l:=l) (m:=m) hz5 (by omega) (by assumption) (by simp only [IntKind.wrap_i64];omega)));(try(have qS:=y8 (rs:=rs) (r:=z4.1) (ts:=z4.2) (by assumption)));(try(have qT:=y8 (rs:=rs) (r:=z4.1) (ts:=z4.2) (by assumption)));clear hl gl ho hrs;grind)];done))
   ·
    have h3':=d8 h3
    refine N9 rfl<|t9<|rA<|c9 ?_
    refine tk Tryz.func69 (.tmp rfl .nil) ?_ <;>(try clear ih0)
    all_goals(refine K7 ?_;(rw [AW (m:=m) i2 (by omega)];clear hl gl ho hrs;grind))
 ·
  have g1':=(d4 g1)
  refine A9 (nc g1) (fun _=>?_)
  refine A9 (nc g1) (fun _=>?_)
  refine A9 (nc g1) (fun _=>?_)
  refine d9 (M9 rfl rfl g1 rfl) ?_
  refine c9 ?_
  refine j9 rfl (fun _=>?_) (nc rfl)
  refine t9<|rA<|c9 ?_
  refine tk Tryz.func69 (.tmp rfl .nil) ?_ <;>(try clear ih0)
  all_goals(refine K7 ?_;(rw [mR (by clear hl gl ho hrs;grind)];done))
theorem FX (t:Int):Pu Tryz.prog 209 [.c (.t none (.v (.int .i64 t)))] [] 0 (.c (.t none (.v (.bool (!(L2 t)))))):=by
 refine S7 Tryz.func209 fun w S=>?_
 refine t9<|rA<|P8 ?_
 refine rM ?_
 refine d9 (n9 0 0 false (H9 Tryz.func157) (L6 t (-10) 4) rfl (.cons rfl (.c .t0) (.cons rfl (.c .t0) (.cons rfl (.c .t0) .nil))) rfl rfl rfl) ?_
 refine d9 (E8 rfl rfl) ?_
 refine rA<|c9 ?_
 refine tk Tryz.func209 (.tmp rfl .nil) ?_
 all_goals rfl
theorem GW (rs:List (List UInt8 × Int × Bool))(r:Int)(ts:List Int)(hrs:rs.length≤4611686018427387904)(hts:ts.length≤4611686018427387904):Pu Tryz.prog 175 [.c (.t none (.sl 3 (j8 Y9 f9 U9) rs)),.agg [.t none (.v (.int .i64 r)),.t none (.sl 1 f9 ts)]] [] 0 (.c (.t none (.v (.bool (p4 rs r ts))))):=by
 refine S7 Tryz.func175 fun w S=>?_
 refine t9 ?_
 refine d9 (m8 0 rfl rfl rfl rfl) ?_
 refine rA<|c9<|k9<|k9 ?_
 refine tY ?_
 refine dT 0 rfl pM ?_
 refine dO 1 rfl (n9 1 1 false (H9 Tryz.func52) (o6 rs (by omega)) rfl (.cons rfl (.c .t0) .nil) rfl rfl rfl) ?_
 refine dT 2 rfl (R3 rfl) ?_
 refine dT 3 rfl pM ?_
 refine dH 4 rfl (fun _=>pF 0) (fun g1=>?_) (fun g1=>?_)
 ·
  have g1':=(Y5 g1)
  refine dH 5 rfl (fun _=>pL) (fun _=>?_) (C9 g1)
  refine dH 6 rfl (fun _=>pM) (fun _=>?_) (C9 g1)
  refine dH 7 rfl (fun _=>X6 rfl rfl) (fun _=>?_) (C9 g1)
  refine dH 8 rfl (fun _=>pB) (fun _=>?_) (C9 g1)
  refine C7 9 rfl rfl (by kernel_rfl) rfl rfl rfl (fun _=>(n9 1 1 false (H9 Tryz.func157) (L6 r 0 (IntKind.i64.wrap ((rs.length:Int) - 1))) rfl (.cons rfl (.c .t0) (.cons rfl (.c .t0) (.cons rfl (.c .t0) .nil))) rfl rfl rfl)) (fun _=>?_) (C9 g1)
  refine dH 10 rfl (fun _=>R3 rfl) (fun _=>?_) (C9 g1)
  refine dT 11 rfl (r8 rfl g1 rfl) ?_
  refine dT 12 rfl pM ?_
  refine dH 13 rfl (fun _=>pF 1) (fun g2=>?_) (fun g2=>?_)
  ·
   have g2':=a8 (Y5 g2)
   refine dH 14 rfl (fun _=>pL) (fun _=>?_) (C9 g2)
   refine dH 15 rfl (fun _=>X6 rfl rfl) (fun _=>?_) (C9 g2)
   refine dH 16 rfl (fun _=>pM) (fun _=>?_) (C9 g2)
   refine dH 17 rfl (fun _=>pF 0) (fun _=>?_) (C9 g2)
   refine dH 18 rfl (fun _=>pL) (fun _=>?_) (C9 g2)
   obtain⟨z3,hz4,b5⟩:=v9 (xs:=rs) (n:=r) (by omega) (by(simp only [IntKind.wrap_i64] at *;omega))
   refine dH 19 rfl (fun _=>p8 (by kernel_rfl) rfl rfl b5 hz4) (fun _=>?_) (C9 g2)
   refine dH 20 rfl (fun _=>R2 (off:=1) (by kernel_rfl) rfl) (fun _=>?_) (C9 g2)
   refine dH 21 rfl (fun _=>Y8 (by kernel_rfl) rfl rfl) (fun _=>?_) (C9 g2)
   refine dH 22 rfl (fun _=>pB) (fun _=>?_) (C9 g2)
   refine dT 23 rfl (r8 rfl g2 rfl) ?_
   refine dE ?_
   refine j9 rfl (fun h6=>?_) (fun h6=>?_)
   ·
    have h6':=a8 h6
    refine t9<|rA<|c9 ?_
    refine tk Tryz.func175 (.tmp rfl .nil) ?_
    all_goals(refine K7 ?_;(rw [vP (by assumption) (by assumption)];done))
   ·
    have h6':=d8 h6
    refine m9<|t9<|rF 1 ?_
    refine rL ?_
    refine d9 (n9 1 1 false (H9 Tryz.func178) (l5 ts 209 ([]) (fun(x0:Int)=>!(L2 x0)) (by omega) (fun x0 mx0=>⟨H9 Tryz.func209,FX x0⟩)) rfl (.cons rfl (.c .t0) (.cons rfl (.c (.clo .nil)) .nil)) rfl rfl rfl) ?_
    refine d9 (E8 rfl rfl) ?_
    refine rA<|c9 ?_
    refine tk Tryz.func175 (.tmp rfl .nil) ?_
    all_goals(refine K7 ?_;(rw [FT (by assumption) (by simp only [IntKind.wrap_i64] at *;omega) (by assumption) (by omega)];done))
  ·
   have g2':=d8 (d4 g2)
   refine dG 14 (nc g2) (fun _=>?_)
   refine dG 15 (nc g2) (fun _=>?_)
   refine dG 16 (nc g2) (fun _=>?_)
   refine dG 17 (nc g2) (fun _=>?_)
   refine dG 18 (nc g2) (fun _=>?_)
   refine dG 19 (nc g2) (fun _=>?_)
   refine dG 20 (nc g2) (fun _=>?_)
   refine dG 21 (nc g2) (fun _=>?_)
   refine dG 22 (nc g2) (fun _=>?_)
   refine dT 23 rfl (C8 rfl g2 rfl) ?_
   refine dE ?_
   refine j9 rfl (fun _=>?_) (nc rfl)
   refine t9<|rA<|c9 ?_
   refine tk Tryz.func175 (.tmp rfl .nil) ?_
   all_goals(refine K7 ?_;(rw [HQ (by simp only [IntKind.wrap_i64] at *;omega)];done))
 ·
  have g1':=(d4 g1)
  refine dG 5 (nc g1) (fun _=>?_)
  refine dG 6 (nc g1) (fun _=>?_)
  refine dG 7 (nc g1) (fun _=>?_)
  refine dG 8 (nc g1) (fun _=>?_)
  refine dG 9 (nc g1) (fun _=>?_)
  refine dG 10 (nc g1) (fun _=>?_)
  refine dT 11 rfl (C8 rfl g1 rfl) ?_
  refine dT 12 rfl pM ?_
  refine dG 13 (nc rfl) (fun _=>?_)
  refine dG 14 (nc rfl) (fun _=>?_)
  refine dG 15 (nc rfl) (fun _=>?_)
  refine dG 16 (nc rfl) (fun _=>?_)
  refine dG 17 (nc rfl) (fun _=>?_)
  refine dG 18 (nc rfl) (fun _=>?_)
  refine dG 19 (nc rfl) (fun _=>?_)
  refine dG 20 (nc rfl) (fun _=>?_)
  refine dG 21 (nc rfl) (fun _=>?_)
  refine dG 22 (nc rfl) (fun _=>?_)
  refine dT 23 rfl (C8 rfl rfl rfl) ?_
  refine dE ?_
  refine j9 rfl (fun _=>?_) (nc rfl)
  refine t9<|rA<|c9 ?_
  refine tk Tryz.func175 (.tmp rfl .nil) ?_
  all_goals(refine K7 ?_;(rw [pP (by assumption)];done))
theorem gV (r:Int)(ts:List Int)(rs:T9)(hrs:rs.length≤4611686018427387904)(hts:ts.length≤4611686018427387904):Pu Tryz.prog 174 [.agg [.t none (.v (.int .i64 r)),.t none (.sl 1 f9 ts)],.c (.pel none ((x9 3 (j8 Y9 f9 U9)) rs) 1)] [] 0 (.c (.t none (.v (.bool (H7 rs (r,ts)))))):=by
 refine S7 Tryz.func174 fun w S=>?_
 refine t9 ?_
 refine d9 (m8 0 rfl rfl rfl rfl) ?_
 refine rA<|P8 ?_
 refine d9 (i8 rfl (by kernel_rfl) rfl rfl) ?_
 refine rC 2 ?_
 refine d9 (n9 1 1 false (H9 Tryz.func175) (GW rs r ts (by omega) (by omega)) rfl (.cons rfl (.c .t0) (.cons rfl (.agg (.cons .t0 (.cons .t0 .nil))) .nil)) rfl rfl rfl) ?_
 refine d9 (E8 rfl rfl) ?_
 refine rA<|c9 ?_
 refine tk Tryz.func174 (.tmp rfl .nil) ?_
 all_goals rfl
theorem m4 (l:List (Int ×(List Int)))(f:Nat)(cs:List ((Nat→T) × Nat))(p:Int ×(List Int)→Bool)(hl:l.length≤9223372036854775807)(hf:∀x∈l,Fu Tryz.prog f ([.agg [.t none (.v (.int .i64 x.1)),.t none (.sl 1 f9 x.2)]]++kV cs) (.c (.t none (.v (.bool (p x)))))):Pu Tryz.prog 177 [.c (.t none (.sl 2 (y9 f9 (x9 1 f9)) l)),.c (.fv f cs)] [] 0 (.c (.t none (.v (.int .i64 (Y4 p l))))):=by
 refine S7 Tryz.func177 fun w S=>?_
 refine t9<|rA<|c9<|k9<|t9 ?_
 refine rM ?_
 refine d9 (P9 rfl rfl rfl) ?_
 refine rM<|c9<|p9 ?_
 refine J9 (fun m=>⟨[(0,some (.c (.t none (.sl 2 (y9 f9 (x9 1 f9)) l)))),(1,some (.c (.fv f cs))),(7,some (.c (.t none (.v (.int .i64 ((l.length:Int))))))),(8,some (.c (.t none (.v (.int .i64 ((m:Int)))))))],[],0⟩:Nat→St) (fun m=>m≤l.length∧∀j z,j < m→l[j]? =some z→p z=false) (fun m=>l.length - m) 0 ⟨⟨rfl,⟨rfl,⟨rfl,⟨rfl,trivial⟩⟩⟩⟩,trivial,rfl⟩ (by exact⟨Nat.zero_le _,fun j z h=>by omega⟩) ?_
 rintro m hI ih0
 try dsimp only at hI ih0
 obtain⟨i1,i2⟩:=hI
 refine t9<|rB<|c9<|k9 ?_
 refine j9 rfl (fun h1=>?_) (fun h1=>?_)
 ·
  have h1':=a8 h1
  refine m9<|k9<|p9<|t9<|rM ?_
  refine rA<|P8 ?_
  refine rM ?_
  refine rM ?_
  refine rM ?_
  obtain⟨z2,hz3,b4⟩:=v9 (xs:=l) (n:=(m:Int)) (by omega) (by omega)
  refine d9 (Q9 rfl (by kernel_rfl) rfl rfl b4 hz3) ?_
  refine d9 (m6 rfl (n:=2) (by kernel_rfl) (by kernel_rfl) rfl rfl) ?_
  refine d9 (QW 0 0 false (hf z2 (D8 (by assumption))).1 (hf z2 (D8 (by assumption))).2 rfl rfl (.c .fv) (.cons rfl (.agg (.cons .t0 (.cons .t0 .nil))) .nil) rfl rfl rfl) ?_
  refine c9 ?_
  refine j9 rfl (fun h5=>?_) (fun h5=>?_)
  ·
   have h5':=h5
   refine t9<|rM ?_
   refine rA<|c9 ?_
   refine tk Tryz.func177 (.tmp rfl .nil) ?_ <;>(try clear ih0)
   all_goals(rw [W2 i2 (by assumption) (by assumption)])
  ·
   have h5':=h5
   refine m9<|i9<|l9<|rB ?_
   refine rM<|c9 ?_
   refine Z9 ?_ (ih0 (m + 1) (by(try dsimp only);omega) (by(try dsimp only);exact⟨by omega,p5 i2 (by assumption) rfl (by assumption)⟩))
   exact⟨⟨rfl,⟨rfl,⟨rfl,⟨(L7 (n8 (by omega) (by omega))),trivial⟩⟩⟩⟩,trivial,rfl⟩
 ·
  have h1':=d8 h1
  refine N9 rfl<|t9<|rA<|c9 ?_
  refine tk Tryz.func177 (.tmp rfl .nil) ?_ <;>(try clear ih0)
  all_goals(rw [I3 i2 (by omega)])
theorem P7 (l:List (Int ×(List Int)))(f:Nat)(cs:List ((Nat→T) × Nat))(p:Int ×(List Int)→Bool)(hl:l.length≤9223372036854775807)(hf:∀x∈l,Fu Tryz.prog f ([.agg [.t none (.v (.int .i64 x.1)),.t none (.sl 1 f9 x.2)]]++kV cs) (.c (.t none (.v (.bool (p x)))))):Pu Tryz.prog 125 [.c (.t none (.sl 2 (y9 f9 (x9 1 f9)) l)),.c (.fv f cs)] [] 0 (.c (.t none (.v (.bool (l.any p))))):=by
 refine S7 Tryz.func125 fun w S=>?_
 refine t9<|rA<|P8 ?_
 refine rM ?_
 refine rM ?_
 refine d9 (n9 0 0 false (H9 Tryz.func177) (m4 l f cs p (by omega) hf) rfl (.cons rfl (.c .t0) (.cons rfl (.c .fv) .nil)) rfl rfl rfl) ?_
 refine rB ?_
 refine rA<|c9 ?_
 refine tk Tryz.func125 (.tmp rfl .nil) ?_
 all_goals(exact K7 X2)
theorem Q1 (rs:T9)(l:w9)(k:Int)(hrs:rs.length≤4611686018427387904)(hs:N8 (fun(x:Int ×(List Int))=>x.2.length) l≤1048576):Pu Tryz.prog 122 [.c (.t none (.sl 3 (j8 Y9 f9 U9) rs)),.c (.t none (.sl 2 (y9 f9 (x9 1 f9)) l)),.c (.t none (.v (.int .i64 k)))] [] 0 (.c (.t none (.v (.bool (R7 rs l k))))):=by
 refine S7 Tryz.func122 fun w S=>?_
 have gl:=I8 (f:=(fun(x:Int ×(List Int))=>x.2.length)) (l:=l)
 refine t9 ?_
 refine d9 (m8 0 rfl rfl rfl rfl) ?_
 refine rA<|P8 ?_
 refine rM ?_
 refine d9 (P9 rfl rfl rfl) ?_
 refine rM ?_
 refine d9 (n9 1 1 false (H9 Tryz.func157) (L6 ((l.length:Int)) 1 k) rfl (.cons rfl (.c .t0) (.cons rfl (.c .t0) (.cons rfl (.c .t0) .nil))) rfl rfl rfl) ?_
 refine rM ?_
 refine A9 (fun g1=>?_) (fun g1=>?_)
 ·
  have g1':=a8 g1
  refine rM ?_
  refine A9 (fun _=>?_) (nc g1)
  refine d9 (X0 rfl (.cons rfl .nil)) ?_
  refine A9 (fun _=>?_) (nc g1)
  refine d9 (n9 1 1 false (H9 Tryz.func125) (P7 l 174 ([((x9 3 (j8 Y9 f9 U9)) rs,1)]) (fun(x0:Int ×(List Int))=>H7 rs (x0.1,x0.2)) (by omega) (fun x0 mx0=>⟨H9 Tryz.func174,gV x0.1 x0.2 rs (by omega) (by(have e1:=kZ (f:=(fun(x:Int ×(List Int))=>x.2.length)) (l:=l) (by assumption);(try dsimp only at e1);omega))⟩)) rfl (.cons rfl (.c .t0) (.cons rfl (.c (.clo (.cons rfl rfl rfl (.cons .t .nil) .nil))) .nil)) rfl rfl rfl) ?_
  refine A9 (fun _=>?_) (nc g1)
  refine d9 (E8 rfl rfl) ?_
  refine d9 (M9 rfl rfl g1 rfl) ?_
  refine rA<|c9 ?_
  refine tk Tryz.func122 (.tmp rfl .nil) ?_
  all_goals(refine K7 ?_;unfold R7;(rw [decide_eq_true (by assumption)];rfl))
 ·
  have g1':=d8 g1
  refine A9 (C9 g1) (fun _=>?_)
  refine A9 (C9 g1) (fun _=>?_)
  refine A9 (C9 g1) (fun _=>?_)
  refine d9 (G9 rfl rfl g1 rfl) ?_
  refine rA<|c9 ?_
  refine tk Tryz.func122 (.tmp rfl .nil) ?_
  all_goals(refine K7 ?_;unfold R7;(rw [decide_eq_false (by assumption)];rfl))
theorem M4 (l:List (Int × List Int))(hl:N8 (fun(x:Int ×(List Int))=>x.2.length) l≤1048576):Pu Tryz.prog 123 [.c (.t none (.sl 2 (y9 f9 (x9 1 f9)) l))] [(0,some (.row none 3 true 1 f9 (O9 (I9 l))))] 1 (.c (.own 0)):=by
 refine S7 Tryz.func123 fun w S=>?_
 have gl:=I8 (f:=(fun(x:Int ×(List Int))=>x.2.length)) (l:=l);have gv:=F7 l
 refine t9<|rA<|P8 ?_
 refine d9 (c7 0 (e:=3) (sz:=1) (zs:=[.int .i64 0]) f9 rfl rfl (by kernel_rfl) rfl) ?_
 refine rA<|c9<|k9<|t9 ?_
 refine rM ?_
 refine d9 (P9 rfl rfl rfl) ?_
 refine rM<|c9<|p9 ?_
 refine J9 (fun m=>⟨[(2,some (.c (.t none (.v (.slice none 0 0))))),(3,some (.c (.own 0))),(9,some (.c (.t none (.sl 2 (y9 f9 (x9 1 f9)) l)))),(10,some (.c (.t none (.v (.int .i64 ((l.length:Int))))))),(11,some (.c (.t none (.v (.int .i64 ((m:Int)))))))],[(0,some (.row none 3 true 1 f9 (I9 (l.take m))))],1⟩:Nat→St) (fun m=>m≤l.length) (fun m=>l.length - m) 0 ⟨⟨rfl,⟨rfl,⟨rfl,⟨rfl,⟨rfl,trivial⟩⟩⟩⟩⟩,⟨rfl,trivial⟩,rfl⟩ (by exact Nat.zero_le _) ?_
 rintro m hI ih0
 try dsimp only at hI ih0
 have i1:=hI
 refine t9<|rB<|c9<|k9 ?_
 refine j9 rfl (fun h1=>?_) (fun h1=>?_)
 ·
  have h1':=a8 h1
  refine m9<|k9<|p9<|t9 ?_
  obtain⟨z2,hz3,b4⟩:=v9 (xs:=l) (n:=(m:Int)) (by omega) (by omega)
  refine d9 (Q9 rfl (by kernel_rfl) rfl rfl b4 hz3) ?_
  refine d9 (m6 rfl (n:=2) (by kernel_rfl) (by kernel_rfl) rfl rfl) ?_
  refine d9 (F9 1 (zs:=[.int .i64 0,.slice none 0 0]) rfl rfl (by kernel_rfl) rfl) ?_
  refine rS 2<|P8 ?_
  refine rF 1 ?_
  refine rL ?_
  refine d9 (P9 rfl rfl rfl) ?_
  refine rM<|c9<|p9 ?_
  refine J9 (fun n=>⟨[(2,some (.c (.t none (.v (.slice none 0 0))))),(3,some (.c (.own 0))),(9,some (.c (.t none (.sl 2 (y9 f9 (x9 1 f9)) l)))),(10,some (.c (.t none (.v (.int .i64 ((l.length:Int))))))),(11,some (.c (.t none (.v (.int .i64 ((m:Int))))))),(16,some (.c (.t none (.sl 1 f9 z2.2)))),(17,some (.c (.t none (.v (.int .i64 ((z2.2.length:Int))))))),(18,some (.c (.t none (.v (.int .i64 ((n:Int)))))))],[(0,some (.row none 3 true 1 f9 (I9 (l.take m)++Z6 (z2.2.take n)))),(1,some (.box [.t none (.v (.int .i64 z2.1)),.t none (.sl 1 f9 z2.2)]))],2⟩:Nat→St) (fun n=>n≤z2.2.length) (fun n=>z2.2.length - n) 0 ⟨⟨rfl,⟨rfl,⟨rfl,⟨rfl,⟨rfl,⟨rfl,⟨rfl,⟨rfl,trivial⟩⟩⟩⟩⟩⟩⟩⟩,⟨(Q8 (by rw [uU,List.append_nil])),⟨rfl,trivial⟩⟩,rfl⟩ (by exact Nat.zero_le _) ?_
  rintro n hI ih1
  try dsimp only at hI ih1
  have j1:=hI;have vp:=jS (m:=m) (n:=n) hz3;(have e1:=X7 (f:=(fun(x:Int ×(List Int))=>x.2.length)) (l:=l) (m:=m) hz3;(try dsimp only at e1))
  refine t9<|rB<|c9<|k9 ?_
  refine j9 rfl (fun h5=>?_) (fun h5=>?_)
  ·
   have h5':=a8 h5
   refine m9<|k9<|p9<|t9 ?_
   obtain⟨z6,hz7,b8⟩:=v9 (xs:=z2.2) (n:=(n:Int)) (by omega) (by omega)
   refine d9 (Q9 rfl (by kernel_rfl) rfl rfl b8 hz7) ?_
   refine d9 (i8 rfl (by kernel_rfl) rfl rfl) ?_
   refine rA<|P8 ?_
   refine rM ?_
   refine rB<|c9 ?_
   refine j9 rfl (fun h9=>?_) (fun h9=>?_)
   ·
    have h9':=a8 h9
    refine l9<|rM ?_
    refine rM ?_
    refine d9 (w8 2 (e:=3) (sz:=1) (zs:=[.int .i64 0]) rfl rfl (by kernel_rfl) rfl rfl rfl rfl rfl) ?_
    refine d9 (W9 0 (e:=3) (sz:=1) (by':=8) z6 rfl (by kernel_rfl) rfl rfl rfl rfl rfl rfl (.cons .sc .nil) rfl (by(simp only [List.length_append];omega)) (by(simp only [List.length_append];omega))) ?_
    refine rA<|c9<|i9<|l9 ?_
    refine rB ?_
    refine rM<|c9 ?_
    refine Z9 ?_ (ih1 (n + 1) (by(try dsimp only);omega) (by(try dsimp only);omega))
    exact⟨⟨rfl,⟨rfl,⟨rfl,⟨rfl,⟨rfl,⟨rfl,⟨rfl,⟨(L7 (n8 (by omega) (by omega))),trivial⟩⟩⟩⟩⟩⟩⟩⟩,⟨(Q8 (by(rw [rU (by assumption) (by omega),List.append_assoc];done))),⟨rfl,trivial⟩⟩,rfl⟩
   ·
    have h9':=d8 h9
    refine m9<|i9<|l9<|rB ?_
    refine rM<|c9 ?_
    refine Z9 ?_ (ih1 (n + 1) (by(try dsimp only);omega) (by(try dsimp only);omega))
    exact⟨⟨rfl,⟨rfl,⟨rfl,⟨rfl,⟨rfl,⟨rfl,⟨rfl,⟨(L7 (n8 (by omega) (by omega))),trivial⟩⟩⟩⟩⟩⟩⟩⟩,⟨(Q8 (by(rw [mU (by assumption) (by omega)];done))),⟨rfl,trivial⟩⟩,rfl⟩
  ·
   have h5':=d8 h5
   refine N9 rfl<|i9<|l9<|rB ?_
   refine rM<|c9 ?_
   refine Z9 ?_ (ih0 (m + 1) (by(try dsimp only);omega) (by(try dsimp only);omega))
   exact⟨⟨rfl,⟨rfl,⟨rfl,⟨rfl,⟨(L7 (n8 (by omega) (by omega))),trivial⟩⟩⟩⟩⟩,⟨(Q8 (by rw [JW (m:=m) hz3];congr 2;exact List.take_of_length_le (by omega))),trivial⟩,rfl⟩
 ·
  have h1':=d8 h1
  refine N9 rfl<|t9<|rM ?_
  refine d9 (SR [⟨0,none,3,1,_,f9,I9 (l.take m),C0 (I9 (l.take m))⟩] (H9 Tryz.func161) (fun U=>n3 U 3 (I9 (l.take m)) (by(simp only [TX (by omega:l.length≤m)];omega))) rfl ⟨rfl,trivial⟩ rfl rfl (.cons rfl (.own rfl) .nil) rfl) ?_
  refine P8<|rM ?_
  refine d9 (OX 0 (l':=O8 (C0 (I9 (l.take m)))) (H9 Tryz.func162) (fun U=>B4 U 3 (C0 (I9 (l.take m))) (by(rw [RX];simp only [TX (by omega:l.length≤m)];omega))) rfl rfl (.cons rfl (.own rfl) .nil)) ?_
  refine rA<|c9 ?_
  refine tk Tryz.func123 (.tmp rfl .nil) ?_ (hL:=⟨Q8 ?_,trivial⟩) <;>(try clear ih0) <;>(try clear ih1)
  all_goals first | rfl | ((rw [TX (by omega),lV]))
theorem U4 (l:List Int)(v:Int)(hl:l.length≤9223372036854775807):Pu Tryz.prog 176 [.c (.t none (.sl 1 f9 l)),.c (.t none (.v (.int .i64 v)))] [] 0 (.c (.t none (.v (.int .i64 (Y4 (qR v) l))))):=by
 refine S7 Tryz.func176 fun w S=>?_
 refine t9<|rA<|c9<|k9<|t9 ?_
 refine rM ?_
 refine d9 (P9 rfl rfl rfl) ?_
 refine rM<|c9<|p9 ?_
 refine J9 (fun m=>⟨[(0,some (.c (.t none (.sl 1 f9 l)))),(1,some (.c (.t none (.v (.int .i64 v))))),(7,some (.c (.t none (.v (.int .i64 ((l.length:Int))))))),(8,some (.c (.t none (.v (.int .i64 ((m:Int)))))))],[],0⟩:Nat→St) (fun m=>m≤l.length∧∀j z,j < m→l[j]? =some z→qR v z=false) (fun m=>l.length - m) 0 ⟨⟨rfl,⟨rfl,⟨rfl,⟨rfl,trivial⟩⟩⟩⟩,trivial,rfl⟩ (by exact⟨Nat.zero_le _,fun j z h=>by omega⟩) ?_
 rintro m hI ih0
 try dsimp only at hI ih0
 obtain⟨i1,i2⟩:=hI
 refine t9<|rB<|c9<|k9 ?_
 refine j9 rfl (fun h1=>?_) (fun h1=>?_)
 ·
  have h1':=a8 h1
  refine m9<|k9<|p9<|t9<|rM ?_
  refine rA<|P8 ?_
  refine rM ?_
  refine rM ?_
  refine rM ?_
  obtain⟨z2,hz3,b4⟩:=v9 (xs:=l) (n:=(m:Int)) (by omega) (by omega)
  refine d9 (Q9 rfl (by kernel_rfl) rfl rfl b4 hz3) ?_
  refine d9 (i8 rfl (by kernel_rfl) rfl rfl) ?_
  refine rB<|c9 ?_
  refine j9 rfl (fun h5=>?_) (fun h5=>?_)
  ·
   have h5':=a8 h5
   refine t9<|rM ?_
   refine rA<|c9 ?_
   refine tk Tryz.func176 (.tmp rfl .nil) ?_ <;>(try clear ih0)
   all_goals(rw [W2 i2 (by assumption) (decide_eq_true (by omega))])
  ·
   have h5':=d8 h5
   refine m9<|i9<|l9<|rB ?_
   refine rM<|c9 ?_
   refine Z9 ?_ (ih0 (m + 1) (by(try dsimp only);omega) (by(try dsimp only);exact⟨by omega,p5 i2 (by assumption) rfl (decide_eq_false (by omega))⟩))
   exact⟨⟨rfl,⟨rfl,⟨rfl,⟨(L7 (n8 (by omega) (by omega))),trivial⟩⟩⟩⟩,trivial,rfl⟩
 ·
  have h1':=d8 h1
  refine N9 rfl<|t9<|rA<|c9 ?_
  refine tk Tryz.func176 (.tmp rfl .nil) ?_ <;>(try clear ih0)
  all_goals(rw [I3 i2 (by omega)])
theorem O7 (l:List Int)(v:Int)(hl:l.length≤9223372036854775807):Pu Tryz.prog 124 [.c (.t none (.sl 1 f9 l)),.c (.t none (.v (.int .i64 v)))] [] 0 (.c (.t none (.v (.bool (zV l v))))):=by
 refine S7 Tryz.func124 fun w S=>?_
 refine t9<|rA<|P8 ?_
 refine rM ?_
 refine rM ?_
 refine d9 (n9 0 0 false (H9 Tryz.func176) (U4 l v (by omega)) rfl (.cons rfl (.c .t0) (.cons rfl (.c .t0) .nil)) rfl rfl rfl) ?_
 refine rB ?_
 refine rA<|c9 ?_
 refine tk Tryz.func124 (.tmp rfl .nil) ?_
 all_goals(exact K7 JK)
theorem mZ (r:Int)(ts:List Int)(rs:T9)(hr:0≤r∧r < rs.length):Pu Tryz.prog 126 [.agg [.t none (.v (.int .i64 r)),.t none (.sl 1 f9 ts)],.c (.pel none ((x9 3 (j8 Y9 f9 U9)) rs) 1)] [] 0 (.c (.t none (.v (.bool (Z0 rs (r,ts)))))):=by
 refine S7 Tryz.func126 fun w S=>?_
 refine t9 ?_
 refine d9 (m8 0 rfl rfl rfl rfl) ?_
 refine rA<|P8 ?_
 refine d9 (i8 rfl (by kernel_rfl) rfl rfl) ?_
 refine rF 0 ?_
 refine rL ?_
 obtain⟨z1,hz2,b3⟩:=v9 (xs:=rs) (n:=r) (by omega) (by omega)
 refine d9 (Q9 rfl (by kernel_rfl) rfl rfl b3 hz2) ?_
 refine d9 (wZ rfl (off:=2) (by kernel_rfl) rfl) ?_
 refine d9 (i8 rfl (by kernel_rfl) rfl rfl) ?_
 refine rA<|c9 ?_
 refine tk Tryz.func126 (.tmp rfl .nil) ?_
 all_goals(refine K7 ?_;rw [y8 (by assumption)])
theorem u5 (rs:T9)(a0:List (Int ×(List Int)))(a1:List (Int ×(List Int)))(a2:Bool)(a3:Int)(a4:Int)(hrs:rs.length≤4611686018427387904)(hs:N8 (fun(x:Int ×(List Int))=>x.2.length) a0 + N8 (fun(x:Int ×(List Int))=>x.2.length) a1≤1048576):Pu Tryz.prog 64 [.c (.t none (.sl 3 (j8 Y9 f9 U9) rs)),.agg [.t none (.sl 2 (y9 f9 (x9 1 f9)) a0),.t none (.sl 2 (y9 f9 (x9 1 f9)) a1),.t none (.v (.bool a2)),.t none (.v (.int .i64 a3)),.t none (.v (.int .i64 a4))]] [] 0 (.c (.t none (.v (.bool (P6 rs a0 a1 a2 a3 a4))))):=by
 refine S7 Tryz.func64 fun w S=>?_
 have g0:=I8 (f:=(fun(x:Int ×(List Int))=>x.2.length)) (l:=a0);have g1:=I8 (f:=(fun(x:Int ×(List Int))=>x.2.length)) (l:=a1);have v0:=Q7 (I9 a0);have v1:=F7 a0
 refine t9 ?_
 refine d9 (m8 0 rfl rfl rfl rfl) ?_
 refine d9 (m8 1 rfl rfl rfl rfl) ?_
 refine rA<|P8 ?_
 refine rC 5 ?_
 refine d9 (F9 2 (zs:=[.slice none 0 0,.slice none 0 0,.bool false,.int .i64 0,.int .i64 0]) rfl rfl (by kernel_rfl) rfl) ?_
 refine rS 5<|c9<|k9<|t9 ?_
 refine rL ?_
 refine rF 0 ?_
 refine rL ?_
 refine d9 (n9 3 3 false (H9 Tryz.func122) (Q1 rs a0 2 (by omega) (by omega)) rfl (.cons rfl (.c .t0) (.cons rfl (.c .t0) (.cons rfl (.c .t0) .nil))) rfl rfl rfl) ?_
 refine d9 (E8 rfl rfl) ?_
 refine c9 ?_
 refine j9 rfl (fun h1=>?_) (fun h1=>?_)
 ·
  have h1':=(d4 h1)
  refine t9<|rA<|c9 ?_
  refine tk Tryz.func64 (.tmp rfl .nil) ?_
  all_goals(refine K7 ?_;clear hs g0 g1 v0 v1;unfold P6;grind)
 ·
  have h1':=(Y5 h1)
  refine m9<|k9<|t9<|rF 2 ?_
  refine rL<|c9 ?_
  refine j9 rfl (fun h2=>?_) (fun h2=>?_)
  ·
   have h2':=h2
   refine t9<|rF 0 ?_
   refine rL ?_
   refine d9 (n9 3 4 false (H9 Tryz.func123) (M4 a0 (by omega)) rfl (.cons rfl (.c .t0) .nil) rfl rfl rfl) ?_
   refine rA<|P8 ?_
   refine rF 1 ?_
   refine rL ?_
   refine d9 (P9 rfl rfl rfl) ?_
   refine rB ?_
   refine rM ?_
   refine A9 (fun g3=>?_) (fun g3=>?_)
   ·
    have g3':=a8 g3
    refine rF 3 ?_
    refine A9 (fun _=>?_) (nc g3)
    refine rL ?_
    refine A9 (fun _=>?_) (nc g3)
    refine rF 4 ?_
    refine A9 (fun _=>?_) (nc g3)
    refine rL ?_
    refine A9 (fun _=>?_) (nc g3)
    refine rB ?_
    refine d9 (M9 rfl rfl g3 rfl) ?_
    refine rM ?_
    refine A9 (fun g4=>?_) (fun g4=>?_)
    ·
     have g4':=a8 g4
     refine rM ?_
     refine A9 (fun _=>?_) (nc g4)
     refine rF 3 ?_
     refine A9 (fun _=>?_) (nc g4)
     refine rL ?_
     refine A9 (fun _=>?_) (nc g4)
     refine d9 (n9 4 4 false (H9 Tryz.func124) (O7 (O9 (I9 a0)) a3 (by omega)) rfl (.cons rfl (.c (.own rfl)) (.cons rfl (.c .t0) .nil)) rfl rfl rfl) ?_
     refine d9 (M9 rfl rfl g4 rfl) ?_
     refine rM ?_
     refine A9 (fun g5=>?_) (fun g5=>?_)
     ·
      have g5':=g5
      refine rM ?_
      refine A9 (fun _=>?_) (nc g5)
      refine rF 4 ?_
      refine A9 (fun _=>?_) (nc g5)
      refine rL ?_
      refine A9 (fun _=>?_) (nc g5)
      refine d9 (n9 4 4 false (H9 Tryz.func124) (O7 (O9 (I9 a0)) a4 (by omega)) rfl (.cons rfl (.c (.own rfl)) (.cons rfl (.c .t0) .nil)) rfl rfl rfl) ?_
      refine d9 (M9 rfl rfl g5 rfl) ?_
      refine rA<|c9 ?_
      refine tk Tryz.func64 (.tmp rfl .nil) ?_
      all_goals(refine K7 ?_;clear hs g0 g1 v0 v1;unfold P6;grind)
     ·
      have g5':=g5
      refine A9 (C9 g5) (fun _=>?_)
      refine A9 (C9 g5) (fun _=>?_)
      refine A9 (C9 g5) (fun _=>?_)
      refine d9 (G9 rfl rfl g5 rfl) ?_
      refine rA<|c9 ?_
      refine tk Tryz.func64 (.tmp rfl .nil) ?_
      all_goals(refine K7 ?_;clear hs g0 g1 v0 v1;unfold P6;grind)
    ·
     have g4':=d8 g4
     refine A9 (C9 g4) (fun _=>?_)
     refine A9 (C9 g4) (fun _=>?_)
     refine A9 (C9 g4) (fun _=>?_)
     refine d9 (G9 rfl rfl g4 rfl) ?_
     refine rM ?_
     refine A9 (C9 rfl) (fun _=>?_)
     refine A9 (C9 rfl) (fun _=>?_)
     refine A9 (C9 rfl) (fun _=>?_)
     refine A9 (C9 rfl) (fun _=>?_)
     refine d9 (G9 rfl rfl rfl rfl) ?_
     refine rA<|c9 ?_
     refine tk Tryz.func64 (.tmp rfl .nil) ?_
     all_goals(refine K7 ?_;clear hs g0 g1 v0 v1;unfold P6;grind)
   ·
    have g3':=d8 g3
    refine A9 (C9 g3) (fun _=>?_)
    refine A9 (C9 g3) (fun _=>?_)
    refine A9 (C9 g3) (fun _=>?_)
    refine A9 (C9 g3) (fun _=>?_)
    refine d9 (G9 rfl rfl g3 rfl) ?_
    refine rM ?_
    refine A9 (C9 rfl) (fun _=>?_)
    refine A9 (C9 rfl) (fun _=>?_)
    refine A9 (C9 rfl) (fun _=>?_)
    refine A9 (C9 rfl) (fun _=>?_)
    refine d9 (G9 rfl rfl rfl rfl) ?_
    refine rM ?_
    refine A9 (C9 rfl) (fun _=>?_)
    refine A9 (C9 rfl) (fun _=>?_)
    refine A9 (C9 rfl) (fun _=>?_)
    refine A9 (C9 rfl) (fun _=>?_)
    refine d9 (G9 rfl rfl rfl rfl) ?_
    refine rA<|c9 ?_
    refine tk Tryz.func64 (.tmp rfl .nil) ?_
    all_goals(refine K7 ?_;clear hs g0 g1 v0 v1;unfold P6;grind)
  ·
   have h2':=h2
   refine m9<|t9<|rL ?_
   refine rF 1 ?_
   refine rL ?_
   refine d9 (n9 3 3 false (H9 Tryz.func122) (Q1 rs a1 2 (by omega) (by omega)) rfl (.cons rfl (.c .t0) (.cons rfl (.c .t0) (.cons rfl (.c .t0) .nil))) rfl rfl rfl) ?_
   refine rM ?_
   refine A9 (fun g6=>?_) (fun g6=>?_)
   ·
    have g6':=g6
    refine rF 3 ?_
    refine A9 (fun _=>?_) (nc g6)
    refine rL ?_
    refine A9 (fun _=>?_) (nc g6)
    refine rB ?_
    refine d9 (M9 rfl rfl g6 rfl) ?_
    refine rM ?_
    refine A9 (fun g7=>?_) (fun g7=>?_)
    ·
     have g7':=a8 g7
     refine rF 4 ?_
     refine A9 (fun _=>?_) (nc g7)
     refine rL ?_
     refine A9 (fun _=>?_) (nc g7)
     refine rB ?_
     refine d9 (M9 rfl rfl g7 rfl) ?_
     refine rM ?_
     refine A9 (fun g8=>?_) (fun g8=>?_)
     ·
      have g8':=a8 g8
      refine rF 1 ?_
      refine A9 (fun _=>?_) (nc g8)
      refine rL ?_
      refine A9 (fun _=>?_) (nc g8)
      refine d9 (X0 rfl (.cons rfl .nil)) ?_
      refine A9 (fun _=>?_) (nc g8)
      refine d9 (n9 3 3 false (H9 Tryz.func125) (P7 a1 126 ([((x9 3 (j8 Y9 f9 U9)) rs,1)]) (fun(x0:Int ×(List Int))=>Z0 rs (x0.1,x0.2)) (by omega) (fun x0 mx0=>⟨H9 Tryz.func126,mZ x0.1 x0.2 rs (by exact YK (by assumption) (by assumption))⟩)) rfl (.cons rfl (.c .t0) (.cons rfl (.c (.clo (.cons rfl rfl rfl (.cons .t .nil) .nil))) .nil)) rfl rfl rfl) ?_
      refine A9 (fun _=>?_) (nc g8)
      refine d9 (E8 rfl rfl) ?_
      refine d9 (M9 rfl rfl g8 rfl) ?_
      refine rA<|c9 ?_
      refine tk Tryz.func64 (.tmp rfl .nil) ?_
      all_goals(refine K7 ?_;clear hs g0 g1 v0 v1;unfold P6;grind)
     ·
      have g8':=d8 g8
      refine A9 (C9 g8) (fun _=>?_)
      refine A9 (C9 g8) (fun _=>?_)
      refine A9 (C9 g8) (fun _=>?_)
      refine A9 (C9 g8) (fun _=>?_)
      refine d9 (G9 rfl rfl g8 rfl) ?_
      refine rA<|c9 ?_
      refine tk Tryz.func64 (.tmp rfl .nil) ?_
      all_goals(refine K7 ?_;clear hs g0 g1 v0 v1;unfold P6;grind)
    ·
     have g7':=d8 g7
     refine A9 (C9 g7) (fun _=>?_)
     refine A9 (C9 g7) (fun _=>?_)
     refine d9 (G9 rfl rfl g7 rfl) ?_
     refine rM ?_
     refine A9 (C9 rfl) (fun _=>?_)
     refine A9 (C9 rfl) (fun _=>?_)
     refine A9 (C9 rfl) (fun _=>?_)
     refine A9 (C9 rfl) (fun _=>?_)
     refine A9 (C9 rfl) (fun _=>?_)
     refine d9 (G9 rfl rfl rfl rfl) ?_
     refine rA<|c9 ?_
     refine tk Tryz.func64 (.tmp rfl .nil) ?_
     all_goals(refine K7 ?_;clear hs g0 g1 v0 v1;unfold P6;grind)
   ·
    have g6':=g6
    refine A9 (C9 g6) (fun _=>?_)
    refine A9 (C9 g6) (fun _=>?_)
    refine d9 (G9 rfl rfl g6 rfl) ?_
    refine rM ?_
    refine A9 (C9 rfl) (fun _=>?_)
    refine A9 (C9 rfl) (fun _=>?_)
    refine A9 (C9 rfl) (fun _=>?_)
    refine d9 (G9 rfl rfl rfl rfl) ?_
    refine rM ?_
    refine A9 (C9 rfl) (fun _=>?_)
    refine A9 (C9 rfl) (fun _=>?_)
    refine A9 (C9 rfl) (fun _=>?_)
    refine A9 (C9 rfl) (fun _=>?_)
    refine A9 (C9 rfl) (fun _=>?_)
    refine d9 (G9 rfl rfl rfl rfl) ?_
    refine rA<|c9 ?_
    refine tk Tryz.func64 (.tmp rfl .nil) ?_
    all_goals(refine K7 ?_;clear hs g0 g1 v0 v1;unfold P6;grind)
theorem I1 (a0:List (Int ×(List Int)))(a1:List (Int ×(List Int)))(a2:Bool)(a3:Int)(a4:Int)(rs:T9)(hrs:rs.length≤4611686018427387904)(hs:N8 (fun(x:Int ×(List Int))=>x.2.length) a0 + N8 (fun(x:Int ×(List Int))=>x.2.length) a1≤1048576):Pu Tryz.prog 63 [.agg [.t none (.sl 2 (y9 f9 (x9 1 f9)) a0),.t none (.sl 2 (y9 f9 (x9 1 f9)) a1),.t none (.v (.bool a2)),.t none (.v (.int .i64 a3)),.t none (.v (.int .i64 a4))],.c (.pel none ((x9 3 (j8 Y9 f9 U9)) rs) 1)] [] 0 (.c (.t none (.v (.bool (AU rs (a0,a1,a2,a3,a4)))))):=by
 refine S7 Tryz.func63 fun w S=>?_
 refine t9 ?_
 refine d9 (m8 0 rfl rfl rfl rfl) ?_
 refine rA<|P8 ?_
 refine d9 (i8 rfl (by kernel_rfl) rfl rfl) ?_
 refine rC 5 ?_
 refine d9 (n9 1 1 false (H9 Tryz.func64) (u5 rs a0 a1 a2 a3 a4 (by omega) (by omega)) rfl (.cons rfl (.c .t0) (.cons rfl (.agg (.cons .t0 (.cons .t0 (.cons .t0 (.cons .t0 (.cons .t0 .nil)))))) .nil)) rfl rfl rfl) ?_
 refine d9 (E8 rfl rfl) ?_
 refine rA<|c9 ?_
 refine tk Tryz.func63 (.tmp rfl .nil) ?_
 all_goals rfl
theorem F6 (l:List ((List (Int ×(List Int))) ×(List (Int ×(List Int))) × Bool × Int × Int))(f:Nat)(cs:List ((Nat→T) × Nat))(p:(List (Int ×(List Int))) ×(List (Int ×(List Int))) × Bool × Int × Int→Bool)(hl:l.length≤9223372036854775807)(hf:∀x∈l,Fu Tryz.prog f ([.agg [.t none (.sl 2 (y9 f9 (x9 1 f9)) x.1),.t none (.sl 2 (y9 f9 (x9 1 f9)) x.2.1),.t none (.v (.bool x.2.2.1)),.t none (.v (.int .i64 x.2.2.2.1)),.t none (.v (.int .i64 x.2.2.2.2))]]++kV cs) (.c (.t none (.v (.bool (p x)))))):Pu Tryz.prog 121 [.c (.t none (.sl 5 (TY (x9 2 (y9 f9 (x9 1 f9))) (x9 2 (y9 f9 (x9 1 f9))) U9 f9 f9) l)),.c (.fv f cs)] [] 0 (.c (.t none (.v (.int .i64 (Y4 p l))))):=by
 refine S7 Tryz.func121 fun w S=>?_
 refine t9<|rA<|c9<|k9<|t9 ?_
 refine rM ?_
 refine d9 (P9 rfl rfl rfl) ?_
 refine rM<|c9<|p9 ?_
 refine J9 (fun m=>⟨[(0,some (.c (.t none (.sl 5 (TY (x9 2 (y9 f9 (x9 1 f9))) (x9 2 (y9 f9 (x9 1 f9))) U9 f9 f9) l)))),(1,some (.c (.fv f cs))),(7,some (.c (.t none (.v (.int .i64 ((l.length:Int))))))),(8,some (.c (.t none (.v (.int .i64 ((m:Int)))))))],[],0⟩:Nat→St) (fun m=>m≤l.length∧∀j z,j < m→l[j]? =some z→p z=false) (fun m=>l.length - m) 0 ⟨⟨rfl,⟨rfl,⟨rfl,⟨rfl,trivial⟩⟩⟩⟩,trivial,rfl⟩ (by exact⟨Nat.zero_le _,fun j z h=>by omega⟩) ?_
 rintro m hI ih0
 try dsimp only at hI ih0
 obtain⟨i1,i2⟩:=hI
 refine t9<|rB<|c9<|k9 ?_
 refine j9 rfl (fun h1=>?_) (fun h1=>?_)
 ·
  have h1':=a8 h1
  refine m9<|k9<|p9<|t9<|rM ?_
  refine rA<|P8 ?_
  refine rM ?_
  refine rM ?_
  refine rM ?_
  obtain⟨z2,hz3,b4⟩:=v9 (xs:=l) (n:=(m:Int)) (by omega) (by omega)
  refine d9 (Q9 rfl (by kernel_rfl) rfl rfl b4 hz3) ?_
  refine d9 (m6 rfl (n:=5) (by kernel_rfl) (by kernel_rfl) rfl rfl) ?_
  refine d9 (QW 0 0 false (hf z2 (D8 (by assumption))).1 (hf z2 (D8 (by assumption))).2 rfl rfl (.c .fv) (.cons rfl (.agg (.cons .t0 (.cons .t0 (.cons .t0 (.cons .t0 (.cons .t0 .nil)))))) .nil) rfl rfl rfl) ?_
  refine c9 ?_
  refine j9 rfl (fun h5=>?_) (fun h5=>?_)
  ·
   have h5':=h5
   refine t9<|rM ?_
   refine rA<|c9 ?_
   refine tk Tryz.func121 (.tmp rfl .nil) ?_ <;>(try clear ih0)
   all_goals(rw [W2 i2 (by assumption) (by assumption)])
  ·
   have h5':=h5
   refine m9<|i9<|l9<|rB ?_
   refine rM<|c9 ?_
   refine Z9 ?_ (ih0 (m + 1) (by(try dsimp only);omega) (by(try dsimp only);exact⟨by omega,p5 i2 (by assumption) rfl (by assumption)⟩))
   exact⟨⟨rfl,⟨rfl,⟨rfl,⟨(L7 (n8 (by omega) (by omega))),trivial⟩⟩⟩⟩,trivial,rfl⟩
 ·
  have h1':=d8 h1
  refine N9 rfl<|t9<|rA<|c9 ?_
  refine tk Tryz.func121 (.tmp rfl .nil) ?_ <;>(try clear ih0)
  all_goals(rw [I3 i2 (by omega)])
theorem s6 (l:List ((List (Int ×(List Int))) ×(List (Int ×(List Int))) × Bool × Int × Int))(f:Nat)(cs:List ((Nat→T) × Nat))(p:(List (Int ×(List Int))) ×(List (Int ×(List Int))) × Bool × Int × Int→Bool)(hl:l.length≤9223372036854775807)(hf:∀x∈l,Fu Tryz.prog f ([.agg [.t none (.sl 2 (y9 f9 (x9 1 f9)) x.1),.t none (.sl 2 (y9 f9 (x9 1 f9)) x.2.1),.t none (.v (.bool x.2.2.1)),.t none (.v (.int .i64 x.2.2.2.1)),.t none (.v (.int .i64 x.2.2.2.2))]]++kV cs) (.c (.t none (.v (.bool (p x)))))):Pu Tryz.prog 62 [.c (.t none (.sl 5 (TY (x9 2 (y9 f9 (x9 1 f9))) (x9 2 (y9 f9 (x9 1 f9))) U9 f9 f9) l)),.c (.fv f cs)] [] 0 (.c (.t none (.v (.bool (l.any p))))):=by
 refine S7 Tryz.func62 fun w S=>?_
 refine t9<|rA<|P8 ?_
 refine rM ?_
 refine rM ?_
 refine d9 (n9 0 0 false (H9 Tryz.func121) (F6 l f cs p (by omega) hf) rfl (.cons rfl (.c .t0) (.cons rfl (.c .fv) .nil)) rfl rfl rfl) ?_
 refine rB ?_
 refine rA<|c9 ?_
 refine tk Tryz.func62 (.tmp rfl .nil) ?_
 all_goals(exact K7 X2)
theorem H0 (rs:T9)(l:List Y1)(hrs:rs.length≤4611686018427387904)(hs:N8 (fun(x:(List (Int ×(List Int))) ×(List (Int ×(List Int))) × Bool × Int × Int)=>(N8 (fun(x:Int ×(List Int))=>x.2.length) x.1) +(N8 (fun(x:Int ×(List Int))=>x.2.length) x.2.1)) l≤1048576):Pu Tryz.prog 26 [.c (.t none (.sl 3 (j8 Y9 f9 U9) rs)),.c (.t none (.sl 5 (TY (x9 2 (y9 f9 (x9 1 f9))) (x9 2 (y9 f9 (x9 1 f9))) U9 f9 f9) l))] [] 0 (.c (.t none (.v (.bool (gZ rs l))))):=by
 refine S7 Tryz.func26 fun w S=>?_
 have gl:=I8 (f:=(fun(x:(List (Int ×(List Int))) ×(List (Int ×(List Int))) × Bool × Int × Int)=>(N8 (fun(x:Int ×(List Int))=>x.2.length) x.1) +(N8 (fun(x:Int ×(List Int))=>x.2.length) x.2.1))) (l:=l)
 refine t9 ?_
 refine d9 (m8 0 rfl rfl rfl rfl) ?_
 refine rA<|P8 ?_
 refine rL ?_
 refine d9 (n9 1 1 false (H9 Tryz.func52) (o6 rs (by omega)) rfl (.cons rfl (.c .t0) .nil) rfl rfl rfl) ?_
 refine rM ?_
 refine A9 (fun g1=>?_) (fun g1=>?_)
 ·
  have g1':=g1
  refine rM ?_
  refine A9 (fun _=>?_) (nc g1)
  refine d9 (P9 rfl rfl rfl) ?_
  refine A9 (fun _=>?_) (nc g1)
  refine rB ?_
  refine d9 (M9 rfl rfl g1 rfl) ?_
  refine rM ?_
  refine A9 (fun g2=>?_) (fun g2=>?_)
  ·
   have g2':=a8 g2
   refine rM ?_
   refine A9 (fun _=>?_) (nc g2)
   refine d9 (X0 rfl (.cons rfl .nil)) ?_
   refine A9 (fun _=>?_) (nc g2)
   refine d9 (n9 1 1 false (H9 Tryz.func62) (s6 l 63 ([((x9 3 (j8 Y9 f9 U9)) rs,1)]) (fun(x0:(List (Int ×(List Int))) ×(List (Int ×(List Int))) × Bool × Int × Int)=>AU rs (x0.1,x0.2.1,x0.2.2.1,x0.2.2.2.1,x0.2.2.2.2)) (by omega) (fun x0 mx0=>⟨H9 Tryz.func63,I1 x0.1 x0.2.1 x0.2.2.1 x0.2.2.2.1 x0.2.2.2.2 rs (by omega) (by(have e1:=kZ (f:=(fun(x:(List (Int ×(List Int))) ×(List (Int ×(List Int))) × Bool × Int × Int)=>(N8 (fun(x:Int ×(List Int))=>x.2.length) x.1) +(N8 (fun(x:Int ×(List Int))=>x.2.length) x.2.1))) (l:=l) (by assumption);(try dsimp only at e1);omega))⟩)) rfl (.cons rfl (.c .t0) (.cons rfl (.c (.clo (.cons rfl rfl rfl (.cons .t .nil) .nil))) .nil)) rfl rfl rfl) ?_
   refine A9 (fun _=>?_) (nc g2)
   refine d9 (E8 rfl rfl) ?_
   refine d9 (M9 rfl rfl g2 rfl) ?_
   refine rA<|c9 ?_
   refine tk Tryz.func26 (.tmp rfl .nil) ?_
   all_goals(refine K7 ?_;clear hs gl;unfold gZ;grind)
  ·
   have g2':=d8 g2
   refine A9 (C9 g2) (fun _=>?_)
   refine A9 (C9 g2) (fun _=>?_)
   refine A9 (C9 g2) (fun _=>?_)
   refine d9 (G9 rfl rfl g2 rfl) ?_
   refine rA<|c9 ?_
   refine tk Tryz.func26 (.tmp rfl .nil) ?_
   all_goals(refine K7 ?_;clear hs gl;unfold gZ;grind)
 ·
  have g1':=g1
  refine A9 (C9 g1) (fun _=>?_)
  refine A9 (C9 g1) (fun _=>?_)
  refine d9 (G9 rfl rfl g1 rfl) ?_
  refine rM ?_
  refine A9 (C9 rfl) (fun _=>?_)
  refine A9 (C9 rfl) (fun _=>?_)
  refine A9 (C9 rfl) (fun _=>?_)
  refine A9 (C9 rfl) (fun _=>?_)
  refine d9 (G9 rfl rfl rfl rfl) ?_
  refine rA<|c9 ?_
  refine tk Tryz.func26 (.tmp rfl .nil) ?_
  all_goals(refine K7 ?_;clear hs gl;unfold gZ;grind)
theorem D0 (rs:T9)(fs l:w9)(hrs:rs.length≤4611686018427387904)(hfs:N8 (fun(x:Int ×(List Int))=>x.2.length) fs≤1048576)(hll:N8 (fun(x:Int ×(List Int))=>x.2.length) l≤1048576)(ho:∀z∈fs,∀x∈z.2,B7 x):Pu Tryz.prog 183 [.agg [.t none (.sl 3 (j8 Y9 f9 U9) rs),.t none (.sl 2 (y9 f9 (x9 1 f9)) fs)],.c (.t none (.sl 2 (y9 f9 (x9 1 f9)) l))] [] 0 (.c (.t none (.v (.bool (sV rs fs l))))):=by
 refine S7 Tryz.func183 fun w S=>?_
 have gl:=I8 (f:=(fun(x:Int ×(List Int))=>x.2.length)) (l:=l)
 refine t9 ?_
 refine d9 (m8 0 rfl rfl rfl rfl) ?_
 refine rA<|P8 ?_
 refine rC 2 ?_
 refine d9 (n9 1 1 false (H9 Tryz.func69) (I6 rs fs (by omega) (by omega) (by omega)) rfl (.cons rfl (.agg (.cons .t0 (.cons .t0 .nil))) .nil) rfl rfl rfl) ?_
 refine rM ?_
 refine A9 (fun g1=>?_) (fun g1=>?_)
 ·
  have g1':=g1
  refine rM ?_
  refine A9 (fun _=>?_) (nc g1)
  refine d9 (P9 rfl rfl rfl) ?_
  refine A9 (fun _=>?_) (nc g1)
  refine rB ?_
  refine A9 (fun _=>?_) (nc g1)
  refine rM ?_
  refine A9 (fun g2=>?_) (fun g2=>?_)
  ·
   have g2':=d8 g2
   refine rF 0 ?_
   refine A9 (fun _=>?_) (C9 g2)
   refine rL ?_
   refine A9 (fun _=>?_) (C9 g2)
   refine rM ?_
   refine A9 (fun _=>?_) (C9 g2)
   refine d9 (n9 1 1 false (H9 Tryz.func122) (Q1 rs l 3 (by omega) (by omega)) rfl (.cons rfl (.c .t0) (.cons rfl (.c .t0) (.cons rfl (.c .t0) .nil))) rfl rfl rfl) ?_
   refine A9 (fun _=>?_) (nc g1)
   refine d9 (G9 rfl rfl g2 rfl) ?_
   refine d9 (M9 rfl rfl g1 rfl) ?_
   refine rA<|c9 ?_
   refine tk Tryz.func183 (.tmp rfl .nil) ?_
   all_goals(refine K7 ?_;clear hrs hfs hll ho gl;unfold sV;(try unfold R7 at *);grind)
  ·
   have g2':=a8 g2
   refine A9 (nc g2) (fun _=>?_)
   refine A9 (nc g2) (fun _=>?_)
   refine A9 (nc g2) (fun _=>?_)
   refine A9 (fun _=>?_) (nc g1)
   refine d9 (M9 rfl rfl g2 rfl) ?_
   refine d9 (M9 rfl rfl g1 rfl) ?_
   refine rA<|c9 ?_
   refine tk Tryz.func183 (.tmp rfl .nil) ?_
   all_goals(refine K7 ?_;clear hrs hfs hll ho gl;unfold sV;(try unfold R7 at *);grind)
 ·
  have g1':=g1
  refine A9 (C9 g1) (fun _=>?_)
  refine A9 (C9 g1) (fun _=>?_)
  refine A9 (C9 g1) (fun _=>?_)
  refine X4 rfl rfl rfl ?_
  refine X4 rfl rfl rfl ?_
  refine X4 rfl rfl rfl ?_
  refine X4 rfl rfl rfl ?_
  refine A9 (C9 g1) (fun _=>?_)
  refine d9 (G9 rfl rfl g1 rfl) ?_
  refine rA<|c9 ?_
  refine tk Tryz.func183 (.tmp rfl .nil) ?_
  all_goals(refine K7 ?_;clear hrs hfs hll ho gl;unfold sV;(try unfold R7 at *);grind)
theorem pV:Pu Tryz.prog 265 [.c (.t none (.v (.int .u64 1))),.c (.t none (.v (.int .u64 5)))] [] 0 (.tup [(false,[.t none (.v (.int .u64 0))]),(false,[.t none (.v (.int .u64 5))])]):=by
 refine S7 Tryz.func265 fun w S=>?_
 refine t9<|rA ?_
 refine rA<|P8 ?_
 refine rM ?_
 refine d9 (U1 rfl rfl rfl rfl) ?_
 refine rA<|P8 ?_
 refine rM ?_
 refine d9 (aK rfl rfl rfl rfl) ?_
 refine rA<|P8 ?_
 refine rM ?_
 refine d9 (U1 rfl rfl rfl rfl) ?_
 refine rA<|P8 ?_
 refine rM ?_
 refine d9 (aK rfl rfl rfl rfl) ?_
 refine rA<|P8 ?_
 refine rM ?_
 refine rM ?_
 refine rB ?_
 refine rA<|P8 ?_
 refine rM ?_
 refine rM ?_
 refine rB ?_
 refine rM ?_
 refine d9 (aK rfl rfl rfl rfl) ?_
 refine rB ?_
 refine rA<|P8 ?_
 refine rM ?_
 refine d9 (U1 rfl rfl rfl rfl) ?_
 refine rA<|P8 ?_
 refine rM ?_
 refine d9 (aK rfl rfl rfl rfl) ?_
 refine rA<|P8 ?_
 refine rM ?_
 refine rM ?_
 refine rM ?_
 refine rB ?_
 refine rB ?_
 refine rA<|P8 ?_
 refine rM ?_
 refine rM ?_
 refine rB ?_
 refine rM ?_
 refine rB ?_
 refine rM ?_
 refine d9 (aK rfl rfl rfl rfl) ?_
 refine rB ?_
 refine rA<|P8 ?_
 refine rM ?_
 refine rM ?_
 refine rB ?_
 refine rA<|c9 ?_
 refine tk Tryz.func265 (.tmp rfl (.tmp rfl .nil)) ?_
 all_goals rfl
theorem xU:Pu Tryz.prog 248 [.c (.t none (.v (.int .u64 1))),.c (.t none (.v (.int .u64 5)))] [] 0 (.tup [(false,[.t none (.v (.int .u64 0))]),(false,[.t none (.v (.int .u64 5))])]):=by
 refine S7 Tryz.func248 fun w S=>?_
 refine t9<|rA ?_
 refine rA<|c9<|k9 ?_
 refine j9 rfl (fun h'=>Bool.noConfusion h') (fun _=>?_)
 refine m9<|t9<|rM ?_
 refine rM ?_
 refine d9 (n9 0 0 false (H9 Tryz.func265) (pV) rfl (.cons rfl (.c .t0) (.cons rfl (.c .t0) .nil)) rfl rfl rfl) ?_
 refine rM ?_
 refine d9 (D9 rfl rfl rfl rfl) ?_
 refine d9 (D9 rfl rfl rfl rfl) ?_
 refine rA ?_
 refine rA<|P8 ?_
 refine rM ?_
 refine rM ?_
 refine rA ?_
 refine rA<|c9 ?_
 refine tk Tryz.func248 (.tmp rfl (.tmp rfl .nil)) ?_
 all_goals rfl
theorem qZ:Pu Tryz.prog 213 [.c (.t none (.sl 1 f9 ([10]))),.c (.t none (.v (.int .i64 5)))] [(0,some (.row none 3 true 1 f9 B8))] 1 (.c (.own 0)):=by
 refine S7 Tryz.func213 fun w S=>?_
 refine t9<|rA<|c9<|k9<|t9 ?_
 refine rM ?_
 refine rB<|c9 ?_
 refine j9 rfl (fun h1=>?_) (fun h1=>?_)
 ·
  have h1':=a8 h1
  exfalso;omega
 ·
  have h1':=d8 h1
  refine m9<|t9<|rM ?_
  refine d9 (P9 rfl rfl rfl) ?_
  refine d9 (sW rfl Tryz.underlying3 Tryz.underlying170 rfl) ?_
  refine rM ?_
  refine d9 (sW rfl Tryz.underlying3 Tryz.underlying170 rfl) ?_
  refine d9 (n9 0 0 false (H9 Tryz.func248) (xU) rfl (.cons rfl (.c .t0) (.cons rfl (.c .t0) .nil)) rfl rfl rfl) ?_
  refine rM ?_
  refine d9 (D9 rfl rfl rfl rfl) ?_
  refine d9 (D9 rfl rfl rfl rfl) ?_
  refine rA ?_
  refine rA<|c9<|k9<|t9 ?_
  refine rM ?_
  refine rB ?_
  refine rM ?_
  refine A9 (fun _=>?_) (C9 rfl)
  refine rM ?_
  refine A9 (fun _=>?_) (C9 rfl)
  refine rB ?_
  refine d9 (G9 rfl rfl rfl rfl) ?_
  refine c9 ?_
  refine j9 rfl (C9 rfl) (fun _=>?_)
  refine m9<|t9<|rM ?_
  refine d9 (sW rfl Tryz.underlying170 Tryz.underlying3 rfl) ?_
  refine d9 (II 0 true (et:=3) (sz:=1) (by':=8) f9 0 (zs:=[.int .i64 0]) rfl rfl (by kernel_rfl) (by kernel_rfl) rfl rfl (.cons (.v rfl) .nil) rfl rfl (by decide) (by decide) (by decide)) ?_
  refine rA<|P8 ?_
  refine rM ?_
  refine rM ?_
  refine d9 (mI (k:=1) rfl rfl rfl rfl Tryz.underlying31 (by kernel_rfl) (fun _ _=>⟨_,rfl⟩) (by decide) (by decide)) ?_
  refine rA<|c9<|k9<|p9 ?_
  refine J9 (fun n=>⟨[(4,some (.c (.t none (.v (.slice none 0 0))))),(7,some (.c (.own 0))),(8,some (.c (.t none (.v (.int .i64 ((n:Int)))))))],[(0,some (.row none 3 true 1 f9 (List.replicate n (10:Int)++List.replicate (5 - n) 0)))],1⟩:Nat→St) (fun n=>n=1∨n=2∨n=4∨n=5) (fun n=>5 - n) 1 ⟨⟨rfl,⟨rfl,⟨rfl,trivial⟩⟩⟩,⟨rfl,trivial⟩,rfl⟩ (by exact .inl rfl) ?_
  rintro n hI ih0
  try dsimp only at hI ih0
  have i1:=hI;have rl:(List.replicate n (10:Int)++List.replicate (5 - n) 0).length=5:=(by simp;omega)
  refine k9<|t9<|rM ?_
  refine rM ?_
  refine d9 (A7 rfl rfl rfl rfl) ?_
  refine rB<|c9 ?_
  refine j9 rfl (fun h2=>?_) (fun h2=>?_)
  ·
   have h2':=a8 h2
   refine m9<|p9 ?_
   refine tD (fun i=>!(Nat.beq i 7)) ?_
   refine dT 1 rfl pM ?_
   refine dT 2 rfl pM ?_
   refine dT 3 rfl (UO (by kernel_rfl) rfl rfl rfl (by omega) (by omega)) ?_
   refine dT 4 rfl pM ?_
   refine dT 5 rfl pM ?_
   refine dT 6 rfl (yL (by kernel_rfl) rfl rfl (.h rfl (by omega) (by omega))) ?_
   refine H8 0 7 rfl rfl (by kernel_rfl) rfl rfl oM (RN (α:=Int) (off:=((n:Int)).toNat) (n:=((List.replicate n (10:Int)++List.replicate (5 - n) 0).length - ((n:Int)).toNat)) (xs:=List.replicate n (10:Int)++List.replicate (5 - n) 0) (ys:=((List.replicate n (10:Int)++List.replicate (5 - n) 0).take ((n:Int)).toNat).drop 0) (k:=(min n (5 - n))) rfl rfl rfl rfl Tryz.underlying31 (by kernel_rfl) (fun _ _=>⟨_,rfl⟩) (by(show _=min _ _;simp;done)) (by omega) (by omega)) ?_ ?_
   ·
    refine dO 7 rfl (RN (α:=Int) (off:=((n:Int)).toNat) (n:=((List.replicate n (10:Int)++List.replicate (5 - n) 0).length - ((n:Int)).toNat)) (xs:=List.replicate n (10:Int)++List.replicate (5 - n) 0) (ys:=((List.replicate n (10:Int)++List.replicate (5 - n) 0).take ((n:Int)).toNat).drop 0) (k:=(min n (5 - n))) rfl rfl rfl rfl Tryz.underlying31 (by kernel_rfl) (fun _ _=>⟨_,rfl⟩) (by(show _=min _ _;simp;done)) (by omega) (by omega)) ?_
    refine dT 8 rfl pB ?_
    refine dT 9 rfl pA ?_
    refine dE ?_
    refine i9 ?_
    refine Z9 ?_ (ih0 (n + min n (5 - n)) (by(try dsimp only);omega) (by(try dsimp only);omega))
    exact⟨⟨rfl,⟨rfl,⟨(L7 (by rw [n8 (by omega) (by omega)];omega)),trivial⟩⟩⟩,⟨(Q8 (ES (by omega))),trivial⟩,rfl⟩
   ·
    refine dT 0 rfl pM ?_
    refine dT 8 rfl pB ?_
    refine dT 9 rfl pA ?_
    refine dE ?_
    refine i9 ?_
    refine Z9 ?_ (ih0 (n + min n (5 - n)) (by(try dsimp only);omega) (by(try dsimp only);omega))
    exact⟨⟨rfl,⟨rfl,⟨(L7 (by rw [n8 (by omega) (by omega)];omega)),trivial⟩⟩⟩,⟨(Q8 (ES (by omega))),trivial⟩,rfl⟩
  ·
   have h2':=d8 h2
   refine N9 rfl<|t9<|rM ?_
   refine rA<|c9 ?_
   refine tk Tryz.func213 (.tmp rfl .nil) ?_ (hL:=⟨Q8 ?_,trivial⟩) <;>(try clear ih0)
   all_goals first | rfl | ((obtain rfl:n=5:=by omega);rfl)
theorem B2:Pu Tryz.prog 185 [] [(1,some (.row none 3 true 1 f9 B8))] 2 (.c (.own 1)):=by
 refine S7 Tryz.func185 fun w S=>?_
 refine t9<|rA<|P8 ?_
 refine d9 (M5 0 (e:=3) (sz:=1) (zs:=[.int .i64 0]) (enc:=f9) 10 rfl rfl (by kernel_rfl) rfl rfl rfl rfl rfl rfl (.cons .sc .nil)) ?_
 refine d9 (n9 1 2 false (H9 Tryz.func213) (qZ) rfl (.cons rfl (.c (.own rfl)) (.cons rfl (.c .t0) .nil)) rfl rfl rfl) ?_
 refine rA<|c9 ?_
 refine tk Tryz.func185 (.tmp rfl .nil) ?_ (hL:=⟨Q8 ?_,trivial⟩)
 all_goals rfl
theorem d6 (l:List Int)(hl:l.length≤1099511627776):Pu Tryz.prog 75 [.c (.t none (.sl 1 f9 l))] [(0,some (.row none 3 true 1 f9 l))] 1 (.c (.own 0)):=by
 refine S7 Tryz.func75 fun w S=>?_
 refine t9<|rA<|c9<|k9<|t9 ?_
 refine rM ?_
 refine zN rfl rfl rfl (fun en1=>?_) ?_
 ·
  refine c9 ?_
  refine j9 rfl (fun _=>?_) (nc rfl)
  refine t9<|rA<|c9 ?_
  refine iX 0 (t:=2) (et:=3) (sz:=1) true f9 rfl rfl ?_
  refine tk Tryz.func75 (.tmp rfl .nil) ?_ (hL:=⟨Q8 ?_,trivial⟩)
  all_goals first | rfl | ((exact en1.symm))
 ·
  refine c9 ?_
  refine j9 rfl (C9 rfl) (fun _=>?_)
  refine m9<|t9 ?_
  refine d9 (c7 0 (e:=3) (sz:=1) (zs:=[.int .i64 0]) f9 rfl rfl (by kernel_rfl) rfl) ?_
  refine rM ?_
  refine d9 (o7 0 (e:=3) (sz:=1) (by':=8) rfl (by kernel_rfl) rfl rfl rfl rfl (fun _ _=>⟨_,rfl⟩) (by(simp;omega)) (by(simp;omega))) ?_
  refine rA<|c9 ?_
  refine tk Tryz.func75 (.tmp rfl .nil) ?_ (hL:=⟨Q8 ?_,trivial⟩)
  all_goals rfl
theorem KP (b:List Int)(r:Int)(ts:List Int)(r2:Int)(vs:List Int)(hb:b.length=5)(ha:ts.length≤4611686018427387904)(ht:∀t∈ts, -10≤t∧t≤4)(hv:r=r2→ts.length=vs.length):Pu Tryz.prog 212 [.c (.t none (.sl 1 f9 b)),.agg [.t none (.v (.int .i64 r)),.t none (.sl 1 f9 ts)],.agg [.t none (.v (.int .i64 r2)),.t none (.sl 1 f9 vs)]] [(0,some (.row none 3 true 1 f9 (if (T5 (r,ts) (r2,vs) b).2=true then(T5 (r,ts) (r2,vs) b).1 else [])))] 1 (.tup [(false,[.own 0]),(false,[.t none (.v (.bool ((T5 (r,ts) (r2,vs) b).2)))])]):=by
 refine S7 Tryz.func212 fun w S=>?_
 refine t9 ?_
 refine d9 (m8 0 rfl rfl rfl rfl) ?_
 refine d9 (m8 1 rfl rfl rfl rfl) ?_
 refine rA ?_
 refine rA<|c9<|k9<|t9 ?_
 refine rF 0 ?_
 refine rL ?_
 refine rF 0 ?_
 refine rL ?_
 refine rB<|c9 ?_
 refine j9 rfl (fun h1=>?_) (fun h1=>?_)
 ·
  have h1':=a8 h1
  refine t9<|rA ?_
  refine rA<|c9 ?_
  refine iX 2 (t:=6) (et:=3) (sz:=1) true f9 rfl rfl ?_
  refine N0 6 2 7 rfl rfl rfl rfl ?_
  refine tk Tryz.func212 (.tmp rfl (.tmp rfl .nil)) ?_ (hL:=⟨Q8 ?_,trivial⟩) <;>(try clear ih0)
  all_goals((have e:T5 (r,ts) (r2,vs) b=_:=(by exact dN (by omega)));first | (rw [e];done) | (rw [e];rfl))
 ·
  have h1':=d8 h1
  refine m9<|t9<|rM ?_
  refine d9 (n9 2 3 false (H9 Tryz.func75) (d6 b (by omega)) rfl (.cons rfl (.c .t0) .nil) rfl rfl rfl) ?_
  refine rA<|c9<|k9<|t9 ?_
  refine rF 1 ?_
  refine rL ?_
  refine d9 (P9 rfl rfl rfl) ?_
  refine rM<|c9<|p9 ?_
  refine J9 (fun(m,q)=>⟨[(5,some (.c (.ptr 1 0))),(8,some (.c (.own 2))),(20,some (.c (.t none (.sl 1 f9 ts)))),(21,some (.c (.t none (.v (.int .i64 ((ts.length:Int))))))),(22,some (.c (.t none (.v (.int .i64 ((m:Int)))))))],[(0,some (.box [.t none (.v (.int .i64 r)),.t none (.sl 1 f9 ts)])),(1,some (.box [.t none (.v (.int .i64 r2)),.t none (.sl 1 f9 vs)])),(2,some (.row none 3 true 1 f9 q))],3⟩:Nat × List Int→St) (fun(m,q)=>m≤ts.length∧q.length=5∧tZ b ((ts.zip vs).take m)=(q,true)) (fun(m,q)=>ts.length - m) (0,b) ⟨⟨rfl,⟨rfl,⟨rfl,⟨rfl,⟨rfl,trivial⟩⟩⟩⟩⟩,⟨rfl,⟨rfl,⟨rfl,trivial⟩⟩⟩,rfl⟩ (by exact⟨Nat.zero_le _,hb,rfl⟩) ?_
  rintro⟨m,q⟩ hI ih0
  try dsimp only at hI ih0
  obtain⟨i1,i2,i3⟩:=hI
  refine t9<|rB<|c9<|k9 ?_
  refine j9 rfl (fun h2=>?_) (fun h2=>?_)
  ·
   have h2':=a8 h2
   refine m9<|k9<|p9<|t9<|rM ?_
   obtain⟨z3,hz4,b5⟩:=v9 (xs:=ts) (n:=(m:Int)) (by omega) (by omega)
   refine d9 (Q9 rfl (by kernel_rfl) rfl rfl b5 hz4) ?_
   refine d9 (i8 rfl (by kernel_rfl) rfl rfl) ?_
   refine rA ?_
   refine rA<|P8 ?_
   refine rF 1 ?_
   refine rL ?_
   refine rM ?_
   obtain⟨z6,hz7,b8⟩:=v9 (xs:=vs) (n:=(m:Int)) (by omega) (by omega)
   refine d9 (Q9 rfl (by kernel_rfl) rfl rfl b8 hz7) ?_
   refine d9 (i8 rfl (by kernel_rfl) rfl rfl) ?_
   refine rA<|c9<|p9<|t9 ?_
   refine rM ?_
   refine rB ?_
   refine rA<|c9 ?_
   refine j9 rfl (fun h9=>?_) (fun h9=>?_)
   ·
    have h9':=a8 h9
    refine t9<|rM ?_
    refine rM ?_
    refine rB ?_
    refine rB<|c9 ?_
    refine j9 rfl (fun h10=>?_) (fun h10=>?_)
    ·
     have h10':=a8 h10
     refine t9<|rA ?_
     refine rA<|c9 ?_
     refine iX 3 (t:=6) (et:=3) (sz:=1) true f9 rfl rfl ?_
     refine N0 6 3 7 rfl rfl rfl rfl ?_
     refine tk Tryz.func212 (.tmp rfl (.tmp rfl .nil)) ?_ (hL:=⟨Q8 ?_,trivial⟩) <;>(try clear ih0)
     all_goals((have e:T5 (r,ts) (r2,vs) b=_:=(by exact iY (by omega) (NU i3 (RZ hz4 hz7 rfl rfl) (yT (by omega) (by(have o1:=ht _ (D8 hz4);have o2:IntKind.i64.wrap (-1 - z3)= -1 - z3:=n8 (by omega) (by omega);omega))))));first | (rw [e];done) | (rw [e];rfl))
    ·
     have h10':=d8 h10
     refine m9<|i9<|i9<|l9<|rB ?_
     refine rM<|c9 ?_
     refine Z9 ?_ (ih0 (m + 1,q) (by(try dsimp only);omega) (by(try dsimp only);exact⟨by omega,(by exact i2),by(exact VZ i3 (RZ hz4 hz7 rfl rfl) (bJ (by omega) (by(have o1:=ht _ (D8 hz4);have o2:IntKind.i64.wrap (-1 - z3)= -1 - z3:=n8 (by omega) (by omega);omega))))⟩))
     exact⟨⟨rfl,⟨rfl,⟨rfl,⟨rfl,⟨(L7 (n8 (by omega) (by omega))),trivial⟩⟩⟩⟩⟩,⟨rfl,⟨rfl,⟨rfl,trivial⟩⟩⟩,rfl⟩
   ·
    have h9':=d8 h9
    refine t9<|rM ?_
    refine rM ?_
    obtain⟨z11,hz12,b13⟩:=v9 (xs:=q) (n:=z3) (by omega) (by(have o1:=ht _ (D8 (by assumption));omega))
    refine d9 (o8 rfl (by kernel_rfl) rfl rfl rfl b13 (f8 b13 hz12)) ?_
    refine d9 (t8 rfl (by kernel_rfl) rfl rfl rfl hz12) ?_
    refine rB ?_
    refine rA<|c9 ?_
    refine j9 rfl (fun h14=>?_) (fun h14=>?_)
    ·
     have h14':=a8 h14
     refine l9<|rM ?_
     refine rM ?_
     refine rM ?_
     refine d9 (o8 rfl (by kernel_rfl) rfl rfl rfl b13 (f8 b13 hz12)) ?_
     refine d9 (F8 z6 (n:=1) (by kernel_rfl) rfl rfl hz12 rfl rfl rfl rfl (.cons .sc .nil) rfl (fun j h1 h2=>by(simp at h1 h2;omega))) ?_
     refine c9<|i9<|i9<|l9<|rB ?_
     refine rM<|c9 ?_
     refine Z9 ?_ (ih0 (m + 1,q.set z3.toNat z6) (by(try dsimp only);omega) (by(try dsimp only);exact⟨by omega,(by(rw [List.length_set];exact i2)),by(exact VZ i3 (RZ hz4 hz7 rfl rfl) (xR (by omega) hz12 (by omega)))⟩))
     exact⟨⟨rfl,⟨rfl,⟨rfl,⟨rfl,⟨(L7 (n8 (by omega) (by omega))),trivial⟩⟩⟩⟩⟩,⟨rfl,⟨rfl,⟨rfl,trivial⟩⟩⟩,rfl⟩
    ·
     have h14':=d8 h14
     refine t9<|rM ?_
     refine rM ?_
     refine d9 (o8 rfl (by kernel_rfl) rfl rfl rfl b13 (f8 b13 hz12)) ?_
     refine d9 (t8 rfl (by kernel_rfl) rfl rfl rfl hz12) ?_
     refine rM ?_
     refine rB ?_
     refine rA<|c9 ?_
     refine j9 rfl (fun h15=>?_) (fun h15=>?_)
     ·
      have h15':=a8 h15
      refine t9<|rA ?_
      refine rA<|c9 ?_
      refine iX 3 (t:=6) (et:=3) (sz:=1) true f9 rfl rfl ?_
      refine N0 6 3 7 rfl rfl rfl rfl ?_
      refine tk Tryz.func212 (.tmp rfl (.tmp rfl .nil)) ?_ (hL:=⟨Q8 ?_,trivial⟩) <;>(try clear ih0)
      all_goals((have e:T5 (r,ts) (r2,vs) b=_:=(by exact iY (by omega) (NU i3 (RZ hz4 hz7 rfl rfl) (FK (by omega) hz12 (by omega) (by omega)))));first | (rw [e];done) | (rw [e];rfl))
     ·
      have h15':=d8 h15
      refine m9<|i9<|i9<|l9<|rB ?_
      refine rM<|c9 ?_
      refine Z9 ?_ (ih0 (m + 1,q) (by(try dsimp only);omega) (by(try dsimp only);exact⟨by omega,(by exact i2),by(exact VZ i3 (RZ hz4 hz7 rfl rfl) (rJ (by omega) hz12 (by omega)))⟩))
      exact⟨⟨rfl,⟨rfl,⟨rfl,⟨rfl,⟨(L7 (n8 (by omega) (by omega))),trivial⟩⟩⟩⟩⟩,⟨rfl,⟨rfl,⟨rfl,trivial⟩⟩⟩,rfl⟩
  ·
   have h2':=d8 h2
   refine N9 rfl<|t9<|rM ?_
   refine rA ?_
   refine rA<|c9 ?_
   refine N0 6 2 7 rfl rfl rfl rfl ?_
   refine tk Tryz.func212 (.tmp rfl (.tmp rfl .nil)) ?_ (hL:=⟨Q8 ?_,trivial⟩) <;>(try clear ih0)
   all_goals((have e:T5 (r,ts) (r2,vs) b=_:=(by exact iY (by omega) (ON i3 (by omega))));first | (rw [e];done) | (rw [e];rfl))
theorem cU:∀(n:Nat) (U:Nat→Value) (fs l:w9) (b:List Int) (hf:fs.length≤30) (hl:l.length≤3) (hb:b.length=5) (hv:∀a∈l,∀f∈fs,a.1=f.1→a.2.length=f.2.length) (ht:∀a∈l,(∀t∈a.2, -10≤t∧t≤4)∧a.2.length≤4611686018427387904) (hn:l.length=n),Mu Tryz.prog 184 [.c (.t none (.sl 2 (y9 f9 (x9 1 f9)) fs)),.c (.t none (.sl 2 (y9 f9 (x9 1 f9)) l)),.c (.own 0)] [(0,some (.row (some (U 0)) 3 true 1 f9 b))] 1 [(0,some (.row none 31 true 1 (x9 1 f9) (S9 fs l b)))] 1 (.c (.own 0)):=by
 refine XK fun n ih=>?_
 intro U fs l b hf hl hb hv ht hn
 have rec_:∀(U:Nat→Value) (fs l:w9) (b:List Int) (hdec:l.length < n) (hf:fs.length≤30) (hl:l.length≤3) (hb:b.length=5) (hv:∀a∈l,∀f∈fs,a.1=f.1→a.2.length=f.2.length) (ht:∀a∈l,(∀t∈a.2, -10≤t∧t≤4)∧a.2.length≤4611686018427387904),Mu Tryz.prog 184 [.c (.t none (.sl 2 (y9 f9 (x9 1 f9)) fs)),.c (.t none (.sl 2 (y9 f9 (x9 1 f9)) l)),.c (.own 0)] [(0,some (.row (some (U 0)) 3 true 1 f9 b))] 1 [(0,some (.row none 31 true 1 (x9 1 f9) (S9 fs l b)))] 1 (.c (.own 0)):=fun U fs l b hdec hf hl hb hv ht=>ih _ hdec U fs l b hf hl hb hv ht rfl
 refine sT Tryz.func184 rfl (Nat.le_of_ble_eq_true rfl) fun w S M=>?_
 refine t9<|rA<|c9<|k9<|t9 ?_
 refine rM ?_
 refine d9 (P9 rfl rfl rfl) ?_
 refine rB<|c9 ?_
 refine j9 rfl (fun h1=>?_) (fun h1=>?_)
 ·
  have h1':=a8 h1
  refine t9<|rM ?_
  refine d9 (iL 1 (e:=31) (sz:=1) (zs:=[.slice none 0 0]) (enc:=(x9 1 f9)) b rfl rfl (by kernel_rfl) rfl rfl rfl rfl rfl rfl (.take (.own rfl) rfl .nil) rfl) ?_
  refine rA<|c9 ?_
  refine tX 6 1 rfl rfl ?_
  refine nN Tryz.func184 (.tmp rfl .nil) ?_ (hL:=⟨Q8 ?_,trivial⟩) <;>(try clear ih0)
  all_goals first | rfl | ((exact(DO (by assumption)).symm))
 ·
  have h1':=d8 h1
  refine m9<|t9 ?_
  refine d9 (c7 1 (e:=31) (sz:=1) (zs:=[.slice none 0 0]) (x9 1 f9) rfl rfl (by kernel_rfl) rfl) ?_
  refine rA<|c9<|k9<|t9 ?_
  refine rM ?_
  refine d9 (P9 rfl rfl rfl) ?_
  refine rM<|c9<|p9 ?_
  refine J9 (fun m=>⟨[(0,some (.c (.t none (.sl 2 (y9 f9 (x9 1 f9)) fs)))),(1,some (.c (.t none (.sl 2 (y9 f9 (x9 1 f9)) l)))),(2,some (.c (.own 0))),(6,some (.c (.t none (.v (.slice none 0 0))))),(7,some (.c (.own 1))),(18,some (.c (.t none (.sl 2 (y9 f9 (x9 1 f9)) fs)))),(19,some (.c (.t none (.v (.int .i64 ((fs.length:Int))))))),(20,some (.c (.t none (.v (.int .i64 ((m:Int)))))))],[(0,some (.row (some (U 0)) 3 true 1 f9 b)),(1,some (.row none 31 true 1 (x9 1 f9) (O6 fs l b m)))],2⟩:Nat→St) (fun m=>m≤fs.length) (fun m=>fs.length - m) 0 ⟨⟨rfl,⟨rfl,⟨rfl,⟨rfl,⟨rfl,⟨rfl,⟨rfl,⟨rfl,trivial⟩⟩⟩⟩⟩⟩⟩⟩,⟨rfl,⟨(Q8 (JL (by assumption)).symm),trivial⟩⟩,rfl⟩ (by exact Nat.zero_le _) ?_
  rintro m hI ih0
  try dsimp only at hI ih0
  have i1:=hI
  refine t9<|rB<|c9<|k9 ?_
  refine j9 rfl (fun h2=>?_) (fun h2=>?_)
  ·
   have h2':=a8 h2
   refine m9<|k9<|p9<|t9 ?_
   obtain⟨z3,hz4,b5⟩:=v9 (xs:=fs) (n:=(m:Int)) (by omega) (by omega)
   refine d9 (Q9 rfl (by kernel_rfl) rfl rfl b5 hz4) ?_
   refine d9 (m6 rfl (n:=2) (by kernel_rfl) (by kernel_rfl) rfl rfl) ?_
   refine d9 (F9 2 (zs:=[.int .i64 0,.slice none 0 0]) rfl rfl (by kernel_rfl) rfl) ?_
   refine rS 2<|c9<|k9 ?_
   refine tY ?_
   refine dT 0 rfl pM ?_
   refine dT 1 rfl pM ?_
   obtain⟨z6,hz7,b8⟩:=v9 (xs:=l) (n:=0) (by omega) (by omega)
   refine dT 2 rfl (p8 (by kernel_rfl) rfl rfl b8 hz7) ?_
   refine dT 3 rfl (p6 (n:=2) (by kernel_rfl) (by kernel_rfl) rfl rfl) ?_
   refine dT 4 rfl (pC 2) ?_
   refine dO 5 rfl (n9 3 4 false (H9 Tryz.func212) (KP b z6.1 z6.2 z3.1 z3.2 (by omega) (by exact(ht _ (D8 (by assumption))).2) (by exact(ht _ (D8 (by assumption))).1) (by exact hv _ (D8 (by assumption)) _ (D8 (by assumption)))) rfl (.cons rfl (.c (.own rfl)) (.cons rfl (.agg (.cons .t0 (.cons .t0 .nil))) (.cons rfl (.agg (.cons .t0 (.cons .t0 .nil))) .nil))) rfl rfl rfl) ?_
   refine dT 6 rfl pM ?_
   refine dT 7 rfl (j6 rfl rfl rfl) ?_
   refine dT 8 rfl (j6 rfl rfl rfl) ?_
   refine dT 9 rfl pA ?_
   refine dT 10 rfl pA ?_
   refine dE ?_
   refine t9<|rM<|c9 ?_
   refine j9 rfl (fun h9=>?_) (fun h9=>?_)
   ·
    have h9':=h9
    refine l9<|rM ?_
    refine rM ?_
    refine rM ?_
    refine d9 (JH rfl (by kernel_rfl) rfl (.l rfl (by omega) (by omega))) ?_
    refine rM ?_
    refine d9 (DV 3 (S9 fs ((l.take l.length).drop ((1:Int)).toNat) (if (T5 (z6.1,z6.2) (z3.1,z3.2) b).2=true then(T5 (z6.1,z6.2) (z3.1,z3.2) b).1 else [])) (H9 Tryz.func184) (fun U=>rec_ U  fs ((l.take l.length).drop ((1:Int)).toNat) (if (T5 (z6.1,z6.2) (z3.1,z3.2) b).2=true then(T5 (z6.1,z6.2) (z3.1,z3.2) b).1 else []) (by(simp only [List.length_drop,List.length_take];omega)) (by omega) (by(simp only [List.length_drop,List.length_take];omega)) (by(rw [if_pos (by assumption)];exact(JT _ _ _).trans hb)) (by exact fun a ha=>hv a (yP ha)) (by exact fun a ha=>ht a (yP ha))) rfl rfl (.cons rfl .t0 (.cons rfl .t0 (.cons rfl (.own rfl) .nil)))) ?_
    refine d9 (sR 1 (e:=31) (sz:=1) (by':=24) rfl (by kernel_rfl) rfl rfl rfl rfl rfl rfl (by(refine Nat.le_trans (Nat.mul_le_mul_right _ (yO hf hl (IV (by assumption)) (by simp only [List.length_drop,List.length_take];omega))) (by decide))) (by exact Nat.le_trans (yO hf hl (IV (by assumption)) (by simp only [List.length_drop,List.length_take];omega)) (by decide))) ?_
    refine rA<|c9<|i9<|l9 ?_
    refine rB ?_
    refine rM<|c9 ?_
    refine Z9 ?_ (ih0 (m + 1) (by(try dsimp only);omega) (by(try dsimp only);omega))
    exact⟨⟨rfl,⟨rfl,⟨rfl,⟨rfl,⟨rfl,⟨rfl,⟨rfl,⟨(L7 (n8 (by omega) (by omega))),trivial⟩⟩⟩⟩⟩⟩⟩⟩,⟨rfl,⟨(Q8 (by(have e:=IT (fs:=fs) (l:=l) (b:=b) (m:=m) hz7 rfl hz4 rfl (by assumption);rw [e,if_pos (by assumption),List.take_length];rfl))),trivial⟩⟩,rfl⟩
   ·
    have h9':=h9
    refine m9<|i9<|l9<|rB ?_
    refine rM<|c9 ?_
    refine Z9 ?_ (ih0 (m + 1) (by(try dsimp only);omega) (by(try dsimp only);omega))
    exact⟨⟨rfl,⟨rfl,⟨rfl,⟨rfl,⟨rfl,⟨rfl,⟨rfl,⟨(L7 (n8 (by omega) (by omega))),trivial⟩⟩⟩⟩⟩⟩⟩⟩,⟨rfl,⟨(Q8 (by exact(pR hz7 rfl hz4 rfl (by assumption)).symm)),trivial⟩⟩,rfl⟩
  ·
   have h2':=d8 h2
   refine N9 rfl<|t9<|rM ?_
   refine rA<|c9 ?_
   refine tX 6 1 rfl rfl ?_
   refine nN Tryz.func184 (.tmp rfl .nil) ?_ (hL:=⟨Q8 ?_,trivial⟩) <;>(try clear ih0)
   all_goals first | rfl | ((exact NT (IV (by assumption)) (by omega)))
theorem W3 (U:Nat→Value)(fs l:w9)(b:List Int)(hf:fs.length≤30)(hl:l.length≤3)(hb:b.length=5)(hv:∀a∈l,∀f∈fs,a.1=f.1→a.2.length=f.2.length)(ht:∀a∈l,(∀t∈a.2, -10≤t∧t≤4)∧a.2.length≤4611686018427387904):Mu Tryz.prog 184 [.c (.t none (.sl 2 (y9 f9 (x9 1 f9)) fs)),.c (.t none (.sl 2 (y9 f9 (x9 1 f9)) l)),.c (.own 0)] [(0,some (.row (some (U 0)) 3 true 1 f9 b))] 1 [(0,some (.row none 31 true 1 (x9 1 f9) (S9 fs l b)))] 1 (.c (.own 0)):=cU _ U fs l b hf hl hb hv ht rfl
theorem sZ (a b:List Int)(ha:a.length≤4611686018427387904):Pu Tryz.prog 216 [.c (.t none (.sl 1 f9 a)),.c (.t none (.sl 1 f9 b))] [] 0 (.c (.t none (.v (.bool (decide (a=b)))))):=by
 refine S7 Tryz.func216 fun w S=>?_
 refine t9<|rA<|c9<|k9<|t9 ?_
 refine rM ?_
 refine d9 (P9 rfl rfl rfl) ?_
 refine rM ?_
 refine d9 (P9 rfl rfl rfl) ?_
 refine rB<|c9 ?_
 refine j9 rfl (fun h1=>?_) (fun h1=>?_)
 ·
  have h1':=a8 h1
  refine t9<|rA<|c9 ?_
  refine tk Tryz.func216 (.tmp rfl .nil) ?_ <;>(try clear ih0)
  all_goals((have:a≠b:=by rintro rfl;simp at *);simp [this])
 ·
  have h1':=d8 h1
  refine m9<|k9<|t9<|rM ?_
  refine d9 (P9 rfl rfl rfl) ?_
  refine rM<|c9<|p9 ?_
  refine J9 (fun m=>⟨[(0,some (.c (.t none (.sl 1 f9 a)))),(1,some (.c (.t none (.sl 1 f9 b)))),(12,some (.c (.t none (.v (.int .i64 ((a.length:Int))))))),(13,some (.c (.t none (.v (.int .i64 ((m:Int)))))))],[],0⟩:Nat→St) (fun m=>m≤a.length∧a.length=b.length∧a.take m=b.take m) (fun m=>a.length - m) 0 ⟨⟨rfl,⟨rfl,⟨rfl,⟨rfl,trivial⟩⟩⟩⟩,trivial,rfl⟩ (by exact⟨Nat.zero_le _,by omega,rfl⟩) ?_
  rintro m hI ih0
  try dsimp only at hI ih0
  obtain⟨i1,i2,i3⟩:=hI
  refine t9<|rB<|c9<|k9 ?_
  refine j9 rfl (fun h2=>?_) (fun h2=>?_)
  ·
   have h2':=a8 h2
   refine m9<|k9<|p9<|t9<|rM ?_
   refine rA<|c9<|k9 ?_
   refine tY ?_
   refine dT 0 rfl pM ?_
   refine dT 1 rfl pM ?_
   obtain⟨z3,hz4,b5⟩:=v9 (xs:=a) (n:=(m:Int)) (by omega) (by omega)
   refine dT 2 rfl (p8 (by kernel_rfl) rfl rfl b5 hz4) ?_
   refine dT 3 rfl (Y8 (by kernel_rfl) rfl rfl) ?_
   refine dT 4 rfl pM ?_
   refine dT 5 rfl pM ?_
   obtain⟨z6,hz7,b8⟩:=v9 (xs:=b) (n:=(m:Int)) (by omega) (by omega)
   refine dT 6 rfl (p8 (by kernel_rfl) rfl rfl b8 hz7) ?_
   refine dT 7 rfl (Y8 (by kernel_rfl) rfl rfl) ?_
   refine dT 8 rfl pB ?_
   refine dE ?_
   refine j9 rfl (fun h9=>?_) (fun h9=>?_)
   ·
    have h9':=a8 h9
    refine t9<|rA<|c9 ?_
    refine tk Tryz.func216 (.tmp rfl .nil) ?_ <;>(try clear ih0)
    all_goals(have:=MN (a:=a) (b:=b) (by assumption) (by assumption) (by assumption);simp_all)
   ·
    have h9':=d8 h9
    refine m9<|i9<|l9<|rB ?_
    refine rM<|c9 ?_
    refine Z9 ?_ (ih0 (m + 1) (by(try dsimp only);omega) (by(try dsimp only);exact⟨by omega,i2,U0 i3 (YX (by assumption) (by assumption) (by omega))⟩))
    exact⟨⟨rfl,⟨rfl,⟨rfl,⟨(L7 (n8 (by omega) (by omega))),trivial⟩⟩⟩⟩,trivial,rfl⟩
  ·
   have h2':=d8 h2
   refine N9 rfl<|t9<|rA<|c9 ?_
   refine tk Tryz.func216 (.tmp rfl .nil) ?_ <;>(try clear ih0)
   all_goals((obtain rfl:m=a.length:=by omega);rw [List.take_length,i2,List.take_length] at i3;simp [i3])
theorem eW (y x:List Int)(hy:y.length≤4611686018427387904):Pu Tryz.prog 215 [.c (.t none (.sl 1 f9 y)),.c (.pel none ((x9 1 f9) x) 1)] [] 0 (.c (.t none (.v (.bool (decide (y=x)))))):=by
 refine S7 Tryz.func215 fun w S=>?_
 refine t9<|rA<|P8 ?_
 refine rM ?_
 refine d9 (i8 rfl (by kernel_rfl) rfl rfl) ?_
 refine d9 (n9 0 0 false (H9 Tryz.func216) (sZ y x (by omega)) rfl (.cons rfl (.c .t0) (.cons rfl (.c .t0) .nil)) rfl rfl rfl) ?_
 refine rA<|c9 ?_
 refine tk Tryz.func215 (.tmp rfl .nil) ?_
 all_goals rfl
theorem H3 (l:List (List Int))(f:Nat)(cs:List ((Nat→T) × Nat))(p:List Int→Bool)(hl:l.length≤9223372036854775807)(hf:∀x∈l,Fu Tryz.prog f ([.c (.t none (.sl 1 f9 x))]++kV cs) (.c (.t none (.v (.bool (p x)))))):Pu Tryz.prog 249 [.c (.t none (.sl 1 (x9 1 f9) l)),.c (.fv f cs)] [] 0 (.c (.t none (.v (.int .i64 (Y4 p l))))):=by
 refine S7 Tryz.func249 fun w S=>?_
 refine t9<|rA<|c9<|k9<|t9 ?_
 refine rM ?_
 refine d9 (P9 rfl rfl rfl) ?_
 refine rM<|c9<|p9 ?_
 refine J9 (fun m=>⟨[(0,some (.c (.t none (.sl 1 (x9 1 f9) l)))),(1,some (.c (.fv f cs))),(7,some (.c (.t none (.v (.int .i64 ((l.length:Int))))))),(8,some (.c (.t none (.v (.int .i64 ((m:Int)))))))],[],0⟩:Nat→St) (fun m=>m≤l.length∧∀j z,j < m→l[j]? =some z→p z=false) (fun m=>l.length - m) 0 ⟨⟨rfl,⟨rfl,⟨rfl,⟨rfl,trivial⟩⟩⟩⟩,trivial,rfl⟩ (by exact⟨Nat.zero_le _,fun j z h=>by omega⟩) ?_
 rintro m hI ih0
 try dsimp only at hI ih0
 obtain⟨i1,i2⟩:=hI
 refine t9<|rB<|c9<|k9 ?_
 refine j9 rfl (fun h1=>?_) (fun h1=>?_)
 ·
  have h1':=a8 h1
  refine m9<|k9<|p9<|t9<|rM ?_
  refine rA<|P8 ?_
  refine rM ?_
  refine rM ?_
  refine rM ?_
  obtain⟨z2,hz3,b4⟩:=v9 (xs:=l) (n:=(m:Int)) (by omega) (by omega)
  refine d9 (Q9 rfl (by kernel_rfl) rfl rfl b4 hz3) ?_
  refine d9 (i8 rfl (by kernel_rfl) rfl rfl) ?_
  refine d9 (QW 0 0 false (hf z2 (D8 (by assumption))).1 (hf z2 (D8 (by assumption))).2 rfl rfl (.c .fv) (.cons rfl (.c .t0) .nil) rfl rfl rfl) ?_
  refine c9 ?_
  refine j9 rfl (fun h5=>?_) (fun h5=>?_)
  ·
   have h5':=h5
   refine t9<|rM ?_
   refine rA<|c9 ?_
   refine tk Tryz.func249 (.tmp rfl .nil) ?_ <;>(try clear ih0)
   all_goals(rw [W2 i2 (by assumption) (by assumption)])
  ·
   have h5':=h5
   refine m9<|i9<|l9<|rB ?_
   refine rM<|c9 ?_
   refine Z9 ?_ (ih0 (m + 1) (by(try dsimp only);omega) (by(try dsimp only);exact⟨by omega,p5 i2 (by assumption) rfl (by assumption)⟩))
   exact⟨⟨rfl,⟨rfl,⟨rfl,⟨(L7 (n8 (by omega) (by omega))),trivial⟩⟩⟩⟩,trivial,rfl⟩
 ·
  have h1':=d8 h1
  refine N9 rfl<|t9<|rA<|c9 ?_
  refine tk Tryz.func249 (.tmp rfl .nil) ?_ <;>(try clear ih0)
  all_goals(rw [I3 i2 (by omega)])
theorem V4 (l:List (List Int))(f:Nat)(cs:List ((Nat→T) × Nat))(p:List Int→Bool)(hl:l.length≤9223372036854775807)(hf:∀x∈l,Fu Tryz.prog f ([.c (.t none (.sl 1 f9 x))]++kV cs) (.c (.t none (.v (.bool (p x)))))):Pu Tryz.prog 214 [.c (.t none (.sl 1 (x9 1 f9) l)),.c (.fv f cs)] [] 0 (.c (.t none (.v (.bool (l.any p))))):=by
 refine S7 Tryz.func214 fun w S=>?_
 refine t9<|rA<|P8 ?_
 refine rM ?_
 refine rM ?_
 refine d9 (n9 0 0 false (H9 Tryz.func249) (H3 l f cs p (by omega) hf) rfl (.cons rfl (.c .t0) (.cons rfl (.c .fv) .nil)) rfl rfl rfl) ?_
 refine rB ?_
 refine rA<|c9 ?_
 refine tk Tryz.func214 (.tmp rfl .nil) ?_
 all_goals(exact K7 X2)
theorem N3 (l:List (List Int))(x:List Int)(hn:l.length≤1048576)(hl:∀y∈l,y.length≤1048576):Pu Tryz.prog 186 [.c (.t none (.sl 1 (x9 1 f9) l)),.c (.t none (.sl 1 f9 x))] [] 0 (.c (.t none (.v (.bool (sY l x))))):=by
 refine S7 Tryz.func186 fun w S=>?_
 refine t9 ?_
 refine d9 (m8 0 rfl rfl rfl rfl) ?_
 refine rA<|P8 ?_
 refine rM ?_
 refine d9 (X0 rfl (.cons rfl .nil)) ?_
 refine d9 (n9 1 1 false (H9 Tryz.func214) (V4 l 215 ([((x9 1 f9) x,1)]) (fun(x0:List Int)=>decide (x0=x)) (by omega) (fun x0 mx0=>⟨H9 Tryz.func215,eW x0 x (by(have e:=hl _ (by assumption);omega))⟩)) rfl (.cons rfl (.c .t0) (.cons rfl (.c (.clo (.cons rfl rfl rfl (.cons .t .nil) .nil))) .nil)) rfl rfl rfl) ?_
 refine rA<|c9 ?_
 refine tk Tryz.func186 (.tmp rfl .nil) ?_
 all_goals rfl
theorem qW (rs:T9)(fs l:w9)(hrs:rs.length≤4611686018427387904)(hfs:N8 (fun(x:Int ×(List Int))=>x.2.length) fs≤1048576)(hll:N8 (fun(x:Int ×(List Int))=>x.2.length) l≤1048576)(ho:∀z∈fs,∀x∈z.2,B7 x):Pu Tryz.prog 135 [.agg [.t none (.sl 3 (j8 Y9 f9 U9) rs),.t none (.sl 2 (y9 f9 (x9 1 f9)) fs)],.c (.t none (.sl 2 (y9 f9 (x9 1 f9)) l))] [(1,some (.row none 31 true 1 (x9 1 f9) (T7 rs fs l)))] 2 (.c (.own 1)):=by
 refine S7 Tryz.func135 fun w S=>?_
 refine t9 ?_
 refine d9 (m8 0 rfl rfl rfl rfl) ?_
 refine rA<|P8 ?_
 refine d9 (c7 1 (e:=31) (sz:=1) (zs:=[.slice none 0 0]) (x9 1 f9) rfl rfl (by kernel_rfl) rfl) ?_
 refine rA<|c9<|k9<|t9 ?_
 refine rC 2 ?_
 refine rM ?_
 refine d9 (n9 2 2 false (H9 Tryz.func183) (D0 rs fs l (by omega) (by omega) (by omega) (by omega)) rfl (.cons rfl (.agg (.cons .t0 (.cons .t0 .nil))) (.cons rfl (.c .t0) .nil)) rfl rfl rfl) ?_
 refine d9 (E8 rfl rfl) ?_
 refine c9 ?_
 refine j9 rfl (fun h1=>?_) (fun h1=>?_)
 ·
  have h1':=(d4 h1)
  refine t9<|rM ?_
  refine rA<|c9 ?_
  refine tk Tryz.func135 (.tmp rfl .nil) ?_ (hL:=⟨Q8 ?_,trivial⟩) <;>(try clear ih0)
  all_goals first | rfl | ((exact TQ (by simp_all;done)))
 ·
  have h1':=(Y5 h1)
  refine m9<|k9<|k9 ?_
  refine tD (fun i=>!(Nat.beq i 4)) ?_
  refine dT 0 rfl (pF 1) ?_
  refine dT 1 rfl pL ?_
  refine dT 2 rfl pM ?_
  refine H8 3 6 rfl rfl (by kernel_rfl) rfl rfl (n9 2 4 false (H9 Tryz.func185) (B2) rfl .nil rfl rfl rfl) oM ?_ ?_
  ·
   refine H8 4 6 rfl rfl (by kernel_rfl) rfl rfl (DV 3 (S9 fs l B8) (H9 Tryz.func184) (fun U=>W3 U  fs l B8 (by exact(V7 (by assumption)).1) (by exact(V7 (by assumption)).2.1) (by rfl) (by exact(V7 (by assumption)).2.2.1) (by exact(V7 (by assumption)).2.2.2)) rfl rfl (.cons rfl .t0 (.cons rfl .t0 (.cons rfl (.own rfl) .nil)))) oM ?_ ?_
   ·
    refine dT 5 rfl (LZ rfl rfl rfl) ?_
    refine dT 6 rfl pM ?_
    refine dE ?_
    refine p9 ?_
    refine oX 3 rfl ?_
    refine J9 (fun(vs,m)=>⟨[(4,some (.c (.t none (.v (.slice none 0 0))))),(5,some (.c (.own 1))),(18,some (.c (.own 3))),(19,some (.c (.t none (.v (.int .i64 (((S9 fs l B8).length:Int))))))),(20,some (.c (.t none (.v (.int .i64 ((m:Int)))))))],[(0,some (.box [.t none (.sl 3 (j8 Y9 f9 U9) rs),.t none (.sl 2 (y9 f9 (x9 1 f9)) fs)])),(1,some (.row none 31 true 1 (x9 1 f9) (Q4 ((S9 fs l B8).take m)))),(3,some (.row none 31 true 1 (zU (x9 1 f9)) (EV vs (S9 fs l B8))))],4⟩:List Value × Nat→St) (fun(vs,m)=>vs.length=m∧m≤(S9 fs l B8).length) (fun(vs,m)=>(S9 fs l B8).length - m) ([],0) ⟨⟨rfl,⟨rfl,⟨rfl,⟨rfl,⟨rfl,trivial⟩⟩⟩⟩⟩,⟨rfl,⟨rfl,⟨rfl,trivial⟩⟩⟩,rfl⟩ (by exact⟨rfl,Nat.zero_le _⟩) ?_
    rintro⟨vs,m⟩ hI ih0
    try dsimp only at hI ih0
    obtain⟨i0,i1⟩:=hI;have mp:=V7 (rs:=rs) (fs:=fs) (l:=l) (by assumption);have dr:=XW (m:=m) mp.1 mp.2.1;have tl:=BZ (vs:=vs) (L:=S9 fs l B8) (by omega);have mm:=Q5 mp.1 mp.2.1 B8
    refine t9<|rB<|c9<|k9 ?_
    refine j9 rfl (fun h2=>?_) (fun h2=>?_)
    ·
     have h2':=a8 h2
     refine m9<|k9<|p9<|k9 ?_
     obtain⟨z3,hz4,b5⟩:=v9 (xs:=S9 fs l B8) (n:=(m:Int)) (by omega) (by omega)
     refine G1 4 3 rfl rfl (uX (by omega) hz4) fun e6 v7=>?_
     refine l9 ?_
     obtain⟨z8,hz9,b10⟩:=v9 (xs:=(EV vs (S9 fs l B8)).set (m:Int).toNat (.inl v7)) (n:=(m:Int)) (by omega) (by(rw [List.length_set];omega))
     refine d9 (o8 rfl (by kernel_rfl) rfl rfl rfl b10 (f8 b10 hz9)) ?_
     refine d9 (W0 rfl (k:=4) (o:=0) (by kernel_rfl) rfl rfl (OZ (by omega) (by omega)) rfl) ?_
     refine rA<|P8 ?_
     refine rM ?_
     refine rM ?_
     refine d9 (n9 5 5 false (H9 Tryz.func186) (N3 (Q4 ((S9 fs l B8).take m)) z3 (by omega) (by(intro y hy;have e5:=eV hy;omega))) rfl (.cons rfl (.c (.own rfl)) (.cons rfl (.c (.own rfl)) .nil)) rfl rfl rfl) ?_
     refine d9 (E8 rfl rfl) ?_
     refine c9 ?_
     refine j9 rfl (fun h11=>?_) (fun h11=>?_)
     ·
      have h11':=(d4 h11)
      refine l9<|rM ?_
      refine rM ?_
      refine d9 (w8 5 (e:=31) (sz:=1) (zs:=[.slice none 0 0]) rfl rfl (by kernel_rfl) rfl rfl rfl rfl rfl) ?_
      refine d9 (W9 1 (e:=31) (sz:=1) (by':=24) z3 rfl (by kernel_rfl) rfl rfl rfl rfl rfl rfl (.take (.own rfl) rfl .nil) rfl (by omega) (by omega)) ?_
      refine rA<|c9<|i9<|l9 ?_
      refine rB ?_
      refine rM<|c9 ?_
      refine Z9 ?_ (ih0 (vs++[v7],m + 1) (by(try dsimp only);omega) (by(try dsimp only);exact⟨by simp;omega,by omega⟩))
      exact⟨⟨rfl,⟨rfl,⟨rfl,⟨rfl,⟨(L7 (n8 (by omega) (by omega))),trivial⟩⟩⟩⟩⟩,⟨rfl,⟨(Q8 (by exact(ZW hz4 rfl (by assumption)).symm)),⟨(Q8 (y3 i0 (by omega))),trivial⟩⟩⟩,rfl⟩
     ·
      have h11':=(Y5 h11)
      refine m9<|i9<|l9<|rB ?_
      refine rM<|c9 ?_
      refine Z9 ?_ (ih0 (vs++[v7],m + 1) (by(try dsimp only);omega) (by(try dsimp only);exact⟨by simp;omega,by omega⟩))
      exact⟨⟨rfl,⟨rfl,⟨rfl,⟨rfl,⟨(L7 (n8 (by omega) (by omega))),trivial⟩⟩⟩⟩⟩,⟨rfl,⟨(Q8 (by exact(VW hz4 rfl (by assumption)).symm)),⟨(Q8 (y3 i0 (by omega))),trivial⟩⟩⟩,rfl⟩
    ·
     have h2':=d8 h2
     refine N9 rfl<|t9<|rM ?_
     refine rA<|c9 ?_
     refine tk Tryz.func135 (.tmp rfl .nil) ?_ (hL:=⟨Q8 ?_,trivial⟩) <;>(try clear ih0)
     all_goals first | rfl | ((exact KX (by assumption) (by omega)))
   ·
    refine dO 4 rfl (DV 3 (S9 fs l B8) (H9 Tryz.func184) (fun U=>W3 U  fs l B8 (by exact(V7 (by assumption)).1) (by exact(V7 (by assumption)).2.1) (by rfl) (by exact(V7 (by assumption)).2.2.1) (by exact(V7 (by assumption)).2.2.2)) rfl rfl (.cons rfl .t0 (.cons rfl .t0 (.cons rfl (.own rfl) .nil)))) ?_
    refine dT 5 rfl (LZ rfl rfl rfl) ?_
    refine dE ?_
    refine p9 ?_
    refine oX 3 rfl ?_
    refine J9 (fun(vs,m)=>⟨[(4,some (.c (.t none (.v (.slice none 0 0))))),(5,some (.c (.own 1))),(18,some (.c (.own 3))),(19,some (.c (.t none (.v (.int .i64 (((S9 fs l B8).length:Int))))))),(20,some (.c (.t none (.v (.int .i64 ((m:Int)))))))],[(0,some (.box [.t none (.sl 3 (j8 Y9 f9 U9) rs),.t none (.sl 2 (y9 f9 (x9 1 f9)) fs)])),(1,some (.row none 31 true 1 (x9 1 f9) (Q4 ((S9 fs l B8).take m)))),(3,some (.row none 31 true 1 (zU (x9 1 f9)) (EV vs (S9 fs l B8))))],4⟩:List Value × Nat→St) (fun(vs,m)=>vs.length=m∧m≤(S9 fs l B8).length) (fun(vs,m)=>(S9 fs l B8).length - m) ([],0) ⟨⟨rfl,⟨rfl,⟨rfl,⟨rfl,⟨rfl,trivial⟩⟩⟩⟩⟩,⟨rfl,⟨rfl,⟨rfl,trivial⟩⟩⟩,rfl⟩ (by exact⟨rfl,Nat.zero_le _⟩) ?_
    rintro⟨vs,m⟩ hI ih0
    try dsimp only at hI ih0
    obtain⟨i0,i1⟩:=hI;have mp:=V7 (rs:=rs) (fs:=fs) (l:=l) (by assumption);have dr:=XW (m:=m) mp.1 mp.2.1;have tl:=BZ (vs:=vs) (L:=S9 fs l B8) (by omega);have mm:=Q5 mp.1 mp.2.1 B8
    refine t9<|rB<|c9<|k9 ?_
    refine j9 rfl (fun h12=>?_) (fun h12=>?_)
    ·
     have h12':=a8 h12
     refine m9<|k9<|p9<|k9 ?_
     obtain⟨z13,hz14,b15⟩:=v9 (xs:=S9 fs l B8) (n:=(m:Int)) (by omega) (by omega)
     refine G1 4 3 rfl rfl (uX (by omega) hz14) fun e16 v17=>?_
     refine l9 ?_
     obtain⟨z18,hz19,b20⟩:=v9 (xs:=(EV vs (S9 fs l B8)).set (m:Int).toNat (.inl v17)) (n:=(m:Int)) (by omega) (by(rw [List.length_set];omega))
     refine d9 (o8 rfl (by kernel_rfl) rfl rfl rfl b20 (f8 b20 hz19)) ?_
     refine d9 (W0 rfl (k:=4) (o:=0) (by kernel_rfl) rfl rfl (OZ (by omega) (by omega)) rfl) ?_
     refine rA<|P8 ?_
     refine rM ?_
     refine rM ?_
     refine d9 (n9 5 5 false (H9 Tryz.func186) (N3 (Q4 ((S9 fs l B8).take m)) z13 (by omega) (by(intro y hy;have e5:=eV hy;omega))) rfl (.cons rfl (.c (.own rfl)) (.cons rfl (.c (.own rfl)) .nil)) rfl rfl rfl) ?_
     refine d9 (E8 rfl rfl) ?_
     refine c9 ?_
     refine j9 rfl (fun h21=>?_) (fun h21=>?_)
     ·
      have h21':=(d4 h21)
      refine l9<|rM ?_
      refine rM ?_
      refine d9 (w8 5 (e:=31) (sz:=1) (zs:=[.slice none 0 0]) rfl rfl (by kernel_rfl) rfl rfl rfl rfl rfl) ?_
      refine d9 (W9 1 (e:=31) (sz:=1) (by':=24) z13 rfl (by kernel_rfl) rfl rfl rfl rfl rfl rfl (.take (.own rfl) rfl .nil) rfl (by omega) (by omega)) ?_
      refine rA<|c9<|i9<|l9 ?_
      refine rB ?_
      refine rM<|c9 ?_
      refine Z9 ?_ (ih0 (vs++[v17],m + 1) (by(try dsimp only);omega) (by(try dsimp only);exact⟨by simp;omega,by omega⟩))
      exact⟨⟨rfl,⟨rfl,⟨rfl,⟨rfl,⟨(L7 (n8 (by omega) (by omega))),trivial⟩⟩⟩⟩⟩,⟨rfl,⟨(Q8 (by exact(ZW hz14 rfl (by assumption)).symm)),⟨(Q8 (y3 i0 (by omega))),trivial⟩⟩⟩,rfl⟩
     ·
      have h21':=(Y5 h21)
      refine m9<|i9<|l9<|rB ?_
      refine rM<|c9 ?_
      refine Z9 ?_ (ih0 (vs++[v17],m + 1) (by(try dsimp only);omega) (by(try dsimp only);exact⟨by simp;omega,by omega⟩))
      exact⟨⟨rfl,⟨rfl,⟨rfl,⟨rfl,⟨(L7 (n8 (by omega) (by omega))),trivial⟩⟩⟩⟩⟩,⟨rfl,⟨(Q8 (by exact(VW hz14 rfl (by assumption)).symm)),⟨(Q8 (y3 i0 (by omega))),trivial⟩⟩⟩,rfl⟩
    ·
     have h12':=d8 h12
     refine N9 rfl<|t9<|rM ?_
     refine rA<|c9 ?_
     refine tk Tryz.func135 (.tmp rfl .nil) ?_ (hL:=⟨Q8 ?_,trivial⟩) <;>(try clear ih0)
     all_goals first | rfl | ((exact KX (by assumption) (by omega)))
  ·
   refine dO 3 rfl (n9 2 4 false (H9 Tryz.func185) (B2) rfl .nil rfl rfl rfl) ?_
   refine dO 4 rfl (DV 3 (S9 fs l B8) (H9 Tryz.func184) (fun U=>W3 U  fs l B8 (by exact(V7 (by assumption)).1) (by exact(V7 (by assumption)).2.1) (by rfl) (by exact(V7 (by assumption)).2.2.1) (by exact(V7 (by assumption)).2.2.2)) rfl rfl (.cons rfl .t0 (.cons rfl .t0 (.cons rfl (.own rfl) .nil)))) ?_
   refine dT 5 rfl (LZ rfl rfl rfl) ?_
   refine dE ?_
   refine p9 ?_
   refine oX 3 rfl ?_
   refine J9 (fun(vs,m)=>⟨[(4,some (.c (.t none (.v (.slice none 0 0))))),(5,some (.c (.own 1))),(18,some (.c (.own 3))),(19,some (.c (.t none (.v (.int .i64 (((S9 fs l B8).length:Int))))))),(20,some (.c (.t none (.v (.int .i64 ((m:Int)))))))],[(0,some (.box [.t none (.sl 3 (j8 Y9 f9 U9) rs),.t none (.sl 2 (y9 f9 (x9 1 f9)) fs)])),(1,some (.row none 31 true 1 (x9 1 f9) (Q4 ((S9 fs l B8).take m)))),(3,some (.row none 31 true 1 (zU (x9 1 f9)) (EV vs (S9 fs l B8))))],4⟩:List Value × Nat→St) (fun(vs,m)=>vs.length=m∧m≤(S9 fs l B8).length) (fun(vs,m)=>(S9 fs l B8).length - m) ([],0) ⟨⟨rfl,⟨rfl,⟨rfl,⟨rfl,⟨rfl,trivial⟩⟩⟩⟩⟩,⟨rfl,⟨rfl,⟨rfl,trivial⟩⟩⟩,rfl⟩ (by exact⟨rfl,Nat.zero_le _⟩) ?_
   rintro⟨vs,m⟩ hI ih0
   try dsimp only at hI ih0
   obtain⟨i0,i1⟩:=hI;have mp:=V7 (rs:=rs) (fs:=fs) (l:=l) (by assumption);have dr:=XW (m:=m) mp.1 mp.2.1;have tl:=BZ (vs:=vs) (L:=S9 fs l B8) (by omega);have mm:=Q5 mp.1 mp.2.1 B8
   refine t9<|rB<|c9<|k9 ?_
   refine j9 rfl (fun h22=>?_) (fun h22=>?_)
   ·
    have h22':=a8 h22
    refine m9<|k9<|p9<|k9 ?_
    obtain⟨z23,hz24,b25⟩:=v9 (xs:=S9 fs l B8) (n:=(m:Int)) (by omega) (by omega)
    refine G1 4 3 rfl rfl (uX (by omega) hz24) fun e26 v27=>?_
    refine l9 ?_
    obtain⟨z28,hz29,b30⟩:=v9 (xs:=(EV vs (S9 fs l B8)).set (m:Int).toNat (.inl v27)) (n:=(m:Int)) (by omega) (by(rw [List.length_set];omega))
    refine d9 (o8 rfl (by kernel_rfl) rfl rfl rfl b30 (f8 b30 hz29)) ?_
    refine d9 (W0 rfl (k:=4) (o:=0) (by kernel_rfl) rfl rfl (OZ (by omega) (by omega)) rfl) ?_
    refine rA<|P8 ?_
    refine rM ?_
    refine rM ?_
    refine d9 (n9 5 5 false (H9 Tryz.func186) (N3 (Q4 ((S9 fs l B8).take m)) z23 (by omega) (by(intro y hy;have e5:=eV hy;omega))) rfl (.cons rfl (.c (.own rfl)) (.cons rfl (.c (.own rfl)) .nil)) rfl rfl rfl) ?_
    refine d9 (E8 rfl rfl) ?_
    refine c9 ?_
    refine j9 rfl (fun h31=>?_) (fun h31=>?_)
    ·
     have h31':=(d4 h31)
     refine l9<|rM ?_
     refine rM ?_
     refine d9 (w8 5 (e:=31) (sz:=1) (zs:=[.slice none 0 0]) rfl rfl (by kernel_rfl) rfl rfl rfl rfl rfl) ?_
     refine d9 (W9 1 (e:=31) (sz:=1) (by':=24) z23 rfl (by kernel_rfl) rfl rfl rfl rfl rfl rfl (.take (.own rfl) rfl .nil) rfl (by omega) (by omega)) ?_
     refine rA<|c9<|i9<|l9 ?_
     refine rB ?_
     refine rM<|c9 ?_
     refine Z9 ?_ (ih0 (vs++[v27],m + 1) (by(try dsimp only);omega) (by(try dsimp only);exact⟨by simp;omega,by omega⟩))
     exact⟨⟨rfl,⟨rfl,⟨rfl,⟨rfl,⟨(L7 (n8 (by omega) (by omega))),trivial⟩⟩⟩⟩⟩,⟨rfl,⟨(Q8 (by exact(ZW hz24 rfl (by assumption)).symm)),⟨(Q8 (y3 i0 (by omega))),trivial⟩⟩⟩,rfl⟩
    ·
     have h31':=(Y5 h31)
     refine m9<|i9<|l9<|rB ?_
     refine rM<|c9 ?_
     refine Z9 ?_ (ih0 (vs++[v27],m + 1) (by(try dsimp only);omega) (by(try dsimp only);exact⟨by simp;omega,by omega⟩))
     exact⟨⟨rfl,⟨rfl,⟨rfl,⟨rfl,⟨(L7 (n8 (by omega) (by omega))),trivial⟩⟩⟩⟩⟩,⟨rfl,⟨(Q8 (by exact(VW hz24 rfl (by assumption)).symm)),⟨(Q8 (y3 i0 (by omega))),trivial⟩⟩⟩,rfl⟩
   ·
    have h22':=d8 h22
    refine N9 rfl<|t9<|rM ?_
    refine rA<|c9 ?_
    refine tk Tryz.func135 (.tmp rfl .nil) ?_ (hL:=⟨Q8 ?_,trivial⟩) <;>(try clear ih0)
    all_goals first | rfl | ((exact KX (by assumption) (by omega)))
def RY:Option (List Int)→List (Nat × Option Ob)
 | none=>[]
 | some q=>[(3,some (.row none 3 true 1 f9 q))]
def BY (r:Int) (ts:List Int) (b:List Int):Option (List Int)→AV
 | none=> .tup [(true,[.t none (.v (.int .i64 0)),.t none (.v (.slice none 0 0))]),(false,[.t none (.v (.bool false))])]
 | some q=> .tup [(true,[.t none (.v (.int .i64 r)),.own 3]),(false,[.t none (.v (.bool true))])]
theorem S5 (r:Int)(ts:List Int)(b:List Int)(hl:ts.length≤1048576)(ho:∀x∈ts,B7 x)(mo:Option (List Int))(hm:w6 b ts=mo):Pu Tryz.prog 78 [.agg [.t none (.v (.int .i64 r)),.t none (.sl 1 f9 ts)],.c (.t none (.sl 1 f9 b))] (RY mo) 4 (BY r ts b mo):=by
 refine S7 Tryz.func78 fun w S=>?_
 refine t9 ?_
 refine d9 (m8 0 rfl rfl rfl rfl) ?_
 refine d9 (F9 1 (zs:=[.int .i64 0,.slice none 0 0]) rfl rfl (by kernel_rfl) rfl) ?_
 refine rA<|P8 ?_
 refine rF 0 ?_
 refine rL ?_
 refine d9 (oD [(0,1),(1,1)] [.int .i64 0,.slice none 0 0]) ?_
 refine d9 (F9 2 (zs:=[.int .i64 0,.slice none 0 0]) rfl rfl (by kernel_rfl) rfl) ?_
 refine rS 2<|c9<|k9<|t9 ?_
 refine rF 1 ?_
 refine rL ?_
 refine d9 (P9 rfl rfl rfl) ?_
 refine rM<|c9<|p9 ?_
 refine A6 3 (b:=2) (o:=1) (et:=3) (sz:=1) true f9 rfl rfl rfl ?_
 refine J9 (fun(m,acc)=>⟨[(1,some (.c (.t none (.sl 1 f9 b)))),(4,some (.c (.ptr 1 0))),(6,some (.c (.ptr 2 0))),(14,some (.c (.t none (.sl 1 f9 ts)))),(15,some (.c (.t none (.v (.int .i64 ((ts.length:Int))))))),(16,some (.c (.t none (.v (.int .i64 ((m:Int)))))))],[(0,some (.box [.t none (.v (.int .i64 r)),.t none (.sl 1 f9 ts)])),(1,some (.box [.t none (.v (.int .i64 0)),.t none (.v (.slice none 0 0))])),(2,some (.box [.t none (.v (.int .i64 r)),.own 3])),(3,some (.row none 3 true 1 f9 acc))],4⟩:Nat × List Int→St) (fun(m,acc)=>m≤ts.length∧w6 b (ts.take m)=some acc) (fun(m,acc)=>ts.length - m) (0,[]) ⟨⟨rfl,⟨rfl,⟨rfl,⟨rfl,⟨rfl,⟨rfl,trivial⟩⟩⟩⟩⟩⟩,⟨rfl,⟨rfl,⟨rfl,⟨rfl,trivial⟩⟩⟩⟩,rfl⟩ (by exact⟨Nat.zero_le _,rfl⟩) ?_
 rintro⟨m,acc⟩ hI ih0
 try dsimp only at hI ih0
 obtain⟨i1,i2⟩:=hI
 refine t9<|rB<|c9<|k9 ?_
 refine j9 rfl (fun h1=>?_) (fun h1=>?_)
 ·
  have h1':=a8 h1
  refine m9<|k9<|p9<|t9 ?_
  obtain⟨z2,hz3,b4⟩:=v9 (xs:=ts) (n:=(m:Int)) (by omega) (by omega)
  refine d9 (Q9 rfl (by kernel_rfl) rfl rfl b4 hz3) ?_
  refine d9 (i8 rfl (by kernel_rfl) rfl rfl) ?_
  refine rA<|P8 ?_
  refine rM ?_
  refine rB ?_
  refine rA<|c9<|k9<|t9 ?_
  refine rM ?_
  refine rB<|c9 ?_
  refine j9 rfl (fun h5=>?_) (fun h5=>?_)
  ·
   have h5':=a8 h5
   refine k9<|t9<|rM ?_
   refine rM ?_
   refine d9 (P9 rfl rfl rfl) ?_
   refine rB<|c9 ?_
   refine j9 rfl (fun h6=>?_) (fun h6=>?_)
   ·
    have h6':=a8 h6
    refine t9 ?_
    refine d9 (oD [(0,1),(1,1)] [.int .i64 0,.slice none 0 0]) ?_
    refine rS 2 ?_
    refine rA<|c9 ?_
    refine I5 Tryz.func78 (X9 2 (.tmp rfl .nil)) rfl fun E S w u hI hd=>?_
    obtain rfl:mo=none:=by rw [← hm];exact V0 i2 (by assumption) rfl (PQ (by assumption) (by assumption))
    refine M7 hI hd ?_ trivial rfl rfl rfl <;> clear hI hd <;>(try clear ih0)
    all_goals rfl
   ·
    have h6':=d8 h6
    refine m9<|l9<|rM ?_
    refine rM ?_
    obtain⟨z7,hz8,b9⟩:=v9 (xs:=b) (n:=z2) (by omega) (by omega)
    refine d9 (Q9 rfl (by kernel_rfl) rfl rfl b9 hz8) ?_
    refine d9 (i8 rfl (by kernel_rfl) rfl rfl) ?_
    refine rA<|c9<|k9<|t9 ?_
    refine rM ?_
    refine d9 (n9 4 4 false (H9 Tryz.func99) (a6 z7) rfl (.cons rfl (.c .t0) .nil) rfl rfl rfl) ?_
    refine d9 (E8 rfl rfl) ?_
    refine c9 ?_
    refine j9 rfl (fun h10=>?_) (fun h10=>?_)
    ·
     have h10':=d8 (d4 h10)
     refine t9 ?_
     refine d9 (oD [(0,1),(1,1)] [.int .i64 0,.slice none 0 0]) ?_
     refine rS 2 ?_
     refine rA<|c9 ?_
     refine I5 Tryz.func78 (X9 2 (.tmp rfl .nil)) rfl fun E S w u hI hd=>?_
     obtain rfl:mo=none:=by rw [← hm];exact V0 i2 (by assumption) rfl (xP (by assumption) (by assumption) (by assumption))
     refine M7 hI hd ?_ trivial rfl rfl rfl <;> clear hI hd <;>(try clear ih0)
     all_goals rfl
    ·
     have h10':=a8 (Y5 h10)
     refine m9<|l9<|rF 1 ?_
     refine rL ?_
     refine rM ?_
     refine d9 (w8 4 (e:=3) (sz:=1) (zs:=[.int .i64 0]) rfl rfl (by kernel_rfl) rfl rfl rfl rfl rfl) ?_
     refine d9 (W9 3 (e:=3) (sz:=1) (by':=8) z7 rfl (by kernel_rfl) rfl rfl rfl rfl rfl rfl (.cons .sc .nil) rfl (by(have:=d5 i2;simp at this;omega)) (by(have:=d5 i2;simp at this;omega))) ?_
     refine rF 1 ?_
     refine rS 1<|c9<|i9<|l9 ?_
     refine rB ?_
     refine rM<|c9 ?_
     refine Z9 ?_ (ih0 (m + 1,acc++[z7]) (by(try dsimp only);omega) (by(try dsimp only);exact⟨by omega,WX i2 (by assumption) rfl (tR (by assumption) (by assumption) (by assumption))⟩))
     exact⟨⟨rfl,⟨rfl,⟨rfl,⟨rfl,⟨rfl,⟨(L7 (rH (by omega))),trivial⟩⟩⟩⟩⟩⟩,⟨rfl,⟨rfl,⟨rfl,⟨rfl,trivial⟩⟩⟩⟩,rfl⟩
  ·
   have h5':=d8 h5
   refine m9<|k9<|t9<|rM ?_
   refine d9 (n9 4 4 false (H9 Tryz.func99) (a6 (IntKind.i64.wrap ((-1) - z2))) rfl (.cons rfl (.c .t0) .nil) rfl rfl rfl) ?_
   refine d9 (E8 rfl rfl) ?_
   refine c9 ?_
   refine j9 rfl (fun h11=>?_) (fun h11=>?_)
   ·
    have h11':=d8 (d4 h11)
    refine t9 ?_
    refine d9 (oD [(0,1),(1,1)] [.int .i64 0,.slice none 0 0]) ?_
    refine rS 2 ?_
    refine rA<|c9 ?_
    refine I5 Tryz.func78 (X9 2 (.tmp rfl .nil)) rfl fun E S w u hI hd=>?_
    obtain rfl:mo=none:=by rw [← hm];exact V0 i2 (by assumption) rfl (HS (by omega) (ho _ (D8 (by assumption))).1 (by assumption))
    refine M7 hI hd ?_ trivial rfl rfl rfl <;> clear hI hd <;>(try clear ih0)
    all_goals rfl
   ·
    have h11':=a8 (Y5 h11)
    refine m9<|l9<|rF 1 ?_
    refine rL ?_
    refine rM ?_
    refine d9 (w8 4 (e:=3) (sz:=1) (zs:=[.int .i64 0]) rfl rfl (by kernel_rfl) rfl rfl rfl rfl rfl) ?_
    refine d9 (W9 3 (e:=3) (sz:=1) (by':=8) (IntKind.i64.wrap ((-1) - z2)) rfl (by kernel_rfl) rfl rfl rfl rfl rfl rfl (.cons .sc .nil) rfl (by(have:=d5 i2;simp at this;omega)) (by(have:=d5 i2;simp at this;omega))) ?_
    refine rF 1 ?_
    refine rS 1<|c9<|i9<|l9 ?_
    refine rB ?_
    refine rM<|c9 ?_
    refine Z9 ?_ (ih0 (m + 1,acc++[IntKind.i64.wrap ((-1) - z2)]) (by(try dsimp only);omega) (by(try dsimp only);exact⟨by omega,WX i2 (by assumption) rfl (iT (by omega) (ho _ (D8 (by assumption))).1 (by assumption))⟩))
    exact⟨⟨rfl,⟨rfl,⟨rfl,⟨rfl,⟨rfl,⟨(L7 (rH (by omega))),trivial⟩⟩⟩⟩⟩⟩,⟨rfl,⟨rfl,⟨rfl,⟨rfl,trivial⟩⟩⟩⟩,rfl⟩
 ·
  have h1':=d8 h1
  refine N9 rfl<|t9<|rC 2 ?_
  refine rS 2 ?_
  refine rA<|c9 ?_
  refine I5 Tryz.func78 (X9 2 (.tmp rfl .nil)) rfl fun E S w u hI hd=>?_
  obtain rfl:mo=some acc:=by rw [← hm];rw [List.take_of_length_le (by omega)] at i2;exact i2
  refine M7 hI hd ?_ ⟨Q8 ?_,trivial⟩ rfl rfl rfl <;> clear hI hd <;>(try clear ih0)
  all_goals rfl
theorem V1 (r:Int)(l:List Int)(r2:Int)(l2:List Int)(hl:l.length≤1048576)(hl2:l2.length≤1048576):Pu Tryz.prog 144 [.agg [.t none (.v (.int .i64 r)),.t none (.sl 1 f9 l)],.agg [.t none (.v (.int .i64 r2)),.t none (.sl 1 f9 l2)]] [] 0 (.c (.t none (.v (.bool (decide (W8 (r,l) (r2,l2)=0)))))):=by
 refine S7 Tryz.func144 fun w S=>?_
 refine t9 ?_
 refine d9 (m8 0 rfl rfl rfl rfl) ?_
 refine d9 (m8 1 rfl rfl rfl rfl) ?_
 refine rA<|P8 ?_
 refine rC 2 ?_
 refine rC 2 ?_
 refine d9 (n9 2 2 false (H9 Tryz.func133) (l0 r l r2 l2 (by omega) (by omega)) rfl (.cons rfl (.agg (.cons .t0 (.cons .t0 .nil))) (.cons rfl (.agg (.cons .t0 (.cons .t0 .nil))) .nil)) rfl rfl rfl) ?_
 refine rB ?_
 refine rA<|c9 ?_
 refine tk Tryz.func144 (.tmp rfl .nil) ?_
 all_goals rfl
theorem SV (r:Int)(l:List Int)(f:Int × List Int)(hl:l.length≤1048576)(hf:f.2.length≤1048576):Pu Tryz.prog 218 [.agg [.t none (.v (.int .i64 r)),.t none (.sl 1 f9 l)],.c (.pel none ((y9 f9 (x9 1 f9)) f) 2)] [] 0 (.c (.t none (.v (.bool (decide (W8 (r,l) f=0)))))):=by
 refine S7 Tryz.func218 fun w S=>?_
 refine t9 ?_
 refine d9 (m8 0 rfl rfl rfl rfl) ?_
 refine rA<|P8 ?_
 refine rC 2 ?_
 refine d9 (m6 rfl (n:=2) (by kernel_rfl) (by kernel_rfl) rfl rfl) ?_
 refine d9 (n9 1 1 false (H9 Tryz.func144) (V1 r l f.1 f.2 (by omega) (by omega)) rfl (.cons rfl (.agg (.cons .t0 (.cons .t0 .nil))) (.cons rfl (.agg (.cons .t0 (.cons .t0 .nil))) .nil)) rfl rfl rfl) ?_
 refine rA<|c9 ?_
 refine tk Tryz.func218 (.tmp rfl .nil) ?_
 all_goals rfl
theorem f4 (l:List (Int ×(List Int)))(f:Nat)(cs:List ((Nat→T) × Nat))(p:Int ×(List Int)→Bool)(hl:l.length≤9223372036854775807)(hf:∀x∈l,Fu Tryz.prog f ([.agg [.t none (.v (.int .i64 x.1)),.t none (.sl 1 f9 x.2)]]++kV cs) (.c (.t none (.v (.bool (p x)))))):Pu Tryz.prog 250 [.c (.t none (.sl 2 (y9 f9 (x9 1 f9)) l)),.c (.fv f cs)] [] 0 (.c (.t none (.v (.int .i64 (Y4 p l))))):=by
 refine S7 Tryz.func250 fun w S=>?_
 refine t9<|rA<|c9<|k9<|t9 ?_
 refine rM ?_
 refine d9 (P9 rfl rfl rfl) ?_
 refine rM<|c9<|p9 ?_
 refine J9 (fun m=>⟨[(0,some (.c (.t none (.sl 2 (y9 f9 (x9 1 f9)) l)))),(1,some (.c (.fv f cs))),(7,some (.c (.t none (.v (.int .i64 ((l.length:Int))))))),(8,some (.c (.t none (.v (.int .i64 ((m:Int)))))))],[],0⟩:Nat→St) (fun m=>m≤l.length∧∀j z,j < m→l[j]? =some z→p z=false) (fun m=>l.length - m) 0 ⟨⟨rfl,⟨rfl,⟨rfl,⟨rfl,trivial⟩⟩⟩⟩,trivial,rfl⟩ (by exact⟨Nat.zero_le _,fun j z h=>by omega⟩) ?_
 rintro m hI ih0
 try dsimp only at hI ih0
 obtain⟨i1,i2⟩:=hI
 refine t9<|rB<|c9<|k9 ?_
 refine j9 rfl (fun h1=>?_) (fun h1=>?_)
 ·
  have h1':=a8 h1
  refine m9<|k9<|p9<|t9<|rM ?_
  refine rA<|P8 ?_
  refine rM ?_
  refine rM ?_
  refine rM ?_
  obtain⟨z2,hz3,b4⟩:=v9 (xs:=l) (n:=(m:Int)) (by omega) (by omega)
  refine d9 (Q9 rfl (by kernel_rfl) rfl rfl b4 hz3) ?_
  refine d9 (m6 rfl (n:=2) (by kernel_rfl) (by kernel_rfl) rfl rfl) ?_
  refine d9 (QW 0 0 false (hf z2 (D8 (by assumption))).1 (hf z2 (D8 (by assumption))).2 rfl rfl (.c .fv) (.cons rfl (.agg (.cons .t0 (.cons .t0 .nil))) .nil) rfl rfl rfl) ?_
  refine c9 ?_
  refine j9 rfl (fun h5=>?_) (fun h5=>?_)
  ·
   have h5':=h5
   refine t9<|rM ?_
   refine rA<|c9 ?_
   refine tk Tryz.func250 (.tmp rfl .nil) ?_ <;>(try clear ih0)
   all_goals(rw [W2 i2 (by assumption) (by assumption)])
  ·
   have h5':=h5
   refine m9<|i9<|l9<|rB ?_
   refine rM<|c9 ?_
   refine Z9 ?_ (ih0 (m + 1) (by(try dsimp only);omega) (by(try dsimp only);exact⟨by omega,p5 i2 (by assumption) rfl (by assumption)⟩))
   exact⟨⟨rfl,⟨rfl,⟨rfl,⟨(L7 (n8 (by omega) (by omega))),trivial⟩⟩⟩⟩,trivial,rfl⟩
 ·
  have h1':=d8 h1
  refine N9 rfl<|t9<|rA<|c9 ?_
  refine tk Tryz.func250 (.tmp rfl .nil) ?_ <;>(try clear ih0)
  all_goals(rw [I3 i2 (by omega)])
theorem J5 (l:List (Int ×(List Int)))(f:Nat)(cs:List ((Nat→T) × Nat))(p:Int ×(List Int)→Bool)(hl:l.length≤9223372036854775807)(hf:∀x∈l,Fu Tryz.prog f ([.agg [.t none (.v (.int .i64 x.1)),.t none (.sl 1 f9 x.2)]]++kV cs) (.c (.t none (.v (.bool (p x)))))):Pu Tryz.prog 217 [.c (.t none (.sl 2 (y9 f9 (x9 1 f9)) l)),.c (.fv f cs)] [] 0 (.c (.t none (.v (.bool (l.any p))))):=by
 refine S7 Tryz.func217 fun w S=>?_
 refine t9<|rA<|P8 ?_
 refine rM ?_
 refine rM ?_
 refine d9 (n9 0 0 false (H9 Tryz.func250) (f4 l f cs p (by omega) hf) rfl (.cons rfl (.c .t0) (.cons rfl (.c .fv) .nil)) rfl rfl rfl) ?_
 refine rB ?_
 refine rA<|c9 ?_
 refine tk Tryz.func217 (.tmp rfl .nil) ?_
 all_goals(exact K7 X2)
theorem CT (fs:w9)(r:Int)(ts:List Int)(hfs:N8 (fun(x:Int ×(List Int))=>x.2.length) fs≤1048576)(hts:ts.length≤1048576):Pu Tryz.prog 187 [.c (.t none (.sl 2 (y9 f9 (x9 1 f9)) fs)),.agg [.t none (.v (.int .i64 r)),.t none (.sl 1 f9 ts)]] [] 0 (.c (.t none (.v (.bool (dL fs (r,ts)))))):=by
 refine S7 Tryz.func187 fun w S=>?_
 have gl:=I8 (f:=(fun(x:Int ×(List Int))=>x.2.length)) (l:=fs)
 refine t9 ?_
 refine d9 (m8 0 rfl rfl rfl rfl) ?_
 refine rA<|P8 ?_
 refine rM ?_
 refine d9 (X0 rfl (.cons rfl .nil)) ?_
 refine d9 (n9 1 1 false (H9 Tryz.func217) (J5 fs 218 ([((y9 f9 (x9 1 f9)) ((r,ts)),2)]) (fun(x0:Int ×(List Int))=>decide (W8 (x0.1,x0.2) ((r,ts))=0)) (by omega) (fun x0 mx0=>⟨H9 Tryz.func218,SV x0.1 x0.2 ((r,ts)) (by(have e1:=kZ (f:=(fun(x:Int ×(List Int))=>x.2.length)) (l:=fs) (by assumption);(try dsimp only at e1);omega)) (by omega)⟩)) rfl (.cons rfl (.c .t0) (.cons rfl (.c (.clo (.cons rfl rfl rfl (.cons .t (.cons .t .nil)) .nil))) .nil)) rfl rfl rfl) ?_
 refine rA<|c9 ?_
 refine tk Tryz.func187 (.tmp rfl .nil) ?_
 all_goals rfl
theorem HV (rs:T9)(fs:w9)(a0:List (Int ×(List Int)))(a1:List (Int ×(List Int)))(a2:Bool)(a3:Int)(a4:Int)(b:List Int)(hrs:rs.length≤4611686018427387904)(hfs:N8 (fun(x:Int ×(List Int))=>x.2.length) fs≤1048576)(ho:∀z∈fs,∀x∈z.2,B7 x)(hs:N8 (fun(x:Int ×(List Int))=>x.2.length) a0 + N8 (fun(x:Int ×(List Int))=>x.2.length) a1≤1048576)(hoa:∀z∈a0,∀x∈z.2,B7 x)(hob:∀x∈b,B7 x)(hbl:b.length≤1048576):Pu Tryz.prog 137 [.agg [.t none (.sl 3 (j8 Y9 f9 U9) rs),.t none (.sl 2 (y9 f9 (x9 1 f9)) fs)],.agg [.t none (.sl 2 (y9 f9 (x9 1 f9)) a0),.t none (.sl 2 (y9 f9 (x9 1 f9)) a1),.t none (.v (.bool a2)),.t none (.v (.int .i64 a3)),.t none (.v (.int .i64 a4))],.c (.t none (.sl 1 f9 b))] [] 0 (.c (.t none (.v (.bool (T4 rs fs a0 a1 a2 a3 a4 b))))):=by
 refine S7 Tryz.func137 fun w S=>?_
 have g0:=I8 (f:=(fun(x:Int ×(List Int))=>x.2.length)) (l:=a0);have v0:=Q7 (I9 a0);have v1:=F7 a0
 refine t9 ?_
 refine d9 (m8 0 rfl rfl rfl rfl) ?_
 refine d9 (m8 1 rfl rfl rfl rfl) ?_
 refine rA<|c9<|k9<|t9 ?_
 refine rC 2 ?_
 refine d9 (n9 2 2 false (H9 Tryz.func69) (I6 rs fs (by omega) (by omega) (by omega)) rfl (.cons rfl (.agg (.cons .t0 (.cons .t0 .nil))) .nil) rfl rfl rfl) ?_
 refine d9 (E8 rfl rfl) ?_
 refine rM ?_
 refine A9 (fun g1=>?_) (fun g1=>?_)
 ·
  have g1':=(Y5 g1)
  refine rF 0 ?_
  refine A9 (fun _=>?_) (C9 g1)
  refine rL ?_
  refine A9 (fun _=>?_) (C9 g1)
  refine rC 5 ?_
  refine A9 (fun _=>?_) (C9 g1)
  refine d9 (n9 2 2 false (H9 Tryz.func64) (u5 rs a0 a1 a2 a3 a4 (by omega) (by omega)) rfl (.cons rfl (.c .t0) (.cons rfl (.agg (.cons .t0 (.cons .t0 (.cons .t0 (.cons .t0 (.cons .t0 .nil)))))) .nil)) rfl rfl rfl) ?_
  refine A9 (fun _=>?_) (C9 g1)
  refine d9 (E8 rfl rfl) ?_
  refine d9 (G9 rfl rfl g1 rfl) ?_
  refine rM ?_
  refine A9 (fun g2=>?_) (fun g2=>?_)
  ·
   have g2':=(Y5 g2)
   refine rM ?_
   refine A9 (fun _=>?_) (C9 g2)
   refine d9 (P9 rfl rfl rfl) ?_
   refine A9 (fun _=>?_) (C9 g2)
   refine rB ?_
   refine d9 (G9 rfl rfl g2 rfl) ?_
   refine c9 ?_
   refine j9 rfl (fun h3=>?_) (fun h3=>?_)
   ·
    have h3':=a8 h3
    refine t9<|rA<|c9 ?_
    refine tk Tryz.func137 (.tmp rfl .nil) ?_ <;>(try clear ih0) <;>(try clear ih1)
    all_goals(refine K7 ?_;(unfold T4;clear hrs hfs ho hs hoa hob g0 v0 v1;grind))
   ·
    have h3':=d8 h3
    refine m9<|t9<|rF 0 ?_
    refine rL ?_
    refine d9 (n9 2 3 false (H9 Tryz.func123) (M4 a0 (by omega)) rfl (.cons rfl (.c .t0) .nil) rfl rfl rfl) ?_
    refine rA<|c9<|k9<|t9 ?_
    refine rM ?_
    refine d9 (P9 rfl rfl rfl) ?_
    refine rM<|c9<|p9 ?_
    refine J9 (fun m=>⟨[(2,some (.c (.t none (.sl 1 f9 b)))),(3,some (.c (.ptr 0 0))),(4,some (.c (.ptr 1 0))),(7,some (.c (.own 2))),(32,some (.c (.t none (.sl 1 f9 b)))),(33,some (.c (.t none (.v (.int .i64 ((b.length:Int))))))),(34,some (.c (.t none (.v (.int .i64 ((m:Int)))))))],[(0,some (.box [.t none (.sl 3 (j8 Y9 f9 U9) rs),.t none (.sl 2 (y9 f9 (x9 1 f9)) fs)])),(1,some (.box [.t none (.sl 2 (y9 f9 (x9 1 f9)) a0),.t none (.sl 2 (y9 f9 (x9 1 f9)) a1),.t none (.v (.bool a2)),.t none (.v (.int .i64 a3)),.t none (.v (.int .i64 a4))])),(2,some (.row none 3 true 1 f9 (O9 (I9 a0))))],3⟩:Nat→St) (fun m=>m≤b.length∧∀j,j < m→wY (O9 (I9 a0)) b j=true) (fun m=>b.length - m) 0 ⟨⟨rfl,⟨rfl,⟨rfl,⟨rfl,⟨rfl,⟨rfl,⟨rfl,trivial⟩⟩⟩⟩⟩⟩⟩,⟨rfl,⟨rfl,⟨rfl,trivial⟩⟩⟩,rfl⟩ (by exact⟨Nat.zero_le _,fun j h=>by omega⟩) ?_
    rintro m hI ih0
    try dsimp only at hI ih0
    obtain⟨i1,i2⟩:=hI
    refine t9<|rB<|c9<|k9 ?_
    refine j9 rfl (fun h4=>?_) (fun h4=>?_)
    ·
     have h4':=a8 h4
     refine m9<|k9<|p9<|t9<|rM ?_
     obtain⟨z5,hz6,b7⟩:=v9 (xs:=b) (n:=(m:Int)) (by omega) (by omega)
     refine d9 (Q9 rfl (by kernel_rfl) rfl rfl b7 hz6) ?_
     refine d9 (i8 rfl (by kernel_rfl) rfl rfl) ?_
     refine rA ?_
     refine rA<|P8 ?_
     refine rM ?_
     refine rB ?_
     refine rM ?_
     refine rM ?_
     refine d9 (n9 3 3 false (H9 Tryz.func124) (O7 (O9 (I9 a0)) ((m:Int)) (by omega)) rfl (.cons rfl (.c (.own rfl)) (.cons rfl (.c .t0) .nil)) rfl rfl rfl) ?_
     refine d9 (NH rfl Tryz.underlying4 rfl rfl) ?_
     refine c9 ?_
     refine j9 rfl (fun h8=>?_) (fun h8=>?_)
     ·
      have h8':=h8
      try simp only [decide_eq_true_eq,decide_eq_false_iff_not,Bool.not_eq_true',Bool.not_eq_false',Bool.not_false,Bool.not_true] at h8'
      refine t9<|rA<|c9 ?_
      refine tk Tryz.func137 (.tmp rfl .nil) ?_ <;>(try clear ih0) <;>(try clear ih1)
      all_goals(refine K7 ?_;((have e:fU (O9 (I9 a0)) b=false:=bT (m:=m) (by omega) (by rw [zY (V:=O9 (I9 a0)) (m:=m) hz6];(exact zJ (by assumption))));(unfold T4;rw [e];simp;done)))
     ·
      have h8':=h8
      try simp only [decide_eq_true_eq,decide_eq_false_iff_not,Bool.not_eq_true',Bool.not_eq_false',Bool.not_false,Bool.not_true] at h8'
      refine m9<|i9<|l9<|rB ?_
      refine rM<|c9 ?_
      refine Z9 ?_ (ih0 (m + 1) (by(try dsimp only);omega) (by(try dsimp only);exact⟨by omega,i6 i2 (by rw [zY (V:=O9 (I9 a0)) (m:=m) hz6];(exact HI (by assumption)))⟩))
      exact⟨⟨rfl,⟨rfl,⟨rfl,⟨rfl,⟨rfl,⟨rfl,⟨(L7 (n8 (by omega) (by omega))),trivial⟩⟩⟩⟩⟩⟩⟩,⟨rfl,⟨rfl,⟨rfl,trivial⟩⟩⟩,rfl⟩
    ·
     have h4':=d8 h4
     refine N9 rfl<|k9<|t9<|rF 0 ?_
     refine rL ?_
     refine d9 (P9 rfl rfl rfl) ?_
     refine rM<|c9<|p9 ?_
     refine J9 (fun n=>⟨[(2,some (.c (.t none (.sl 1 f9 b)))),(3,some (.c (.ptr 0 0))),(47,some (.c (.t none (.sl 2 (y9 f9 (x9 1 f9)) a0)))),(48,some (.c (.t none (.v (.int .i64 ((a0.length:Int))))))),(49,some (.c (.t none (.v (.int .i64 ((n:Int)))))))],[(0,some (.box [.t none (.sl 3 (j8 Y9 f9 U9) rs),.t none (.sl 2 (y9 f9 (x9 1 f9)) fs)])),(1,some (.box [.t none (.sl 2 (y9 f9 (x9 1 f9)) a0),.t none (.sl 2 (y9 f9 (x9 1 f9)) a1),.t none (.v (.bool a2)),.t none (.v (.int .i64 a3)),.t none (.v (.int .i64 a4))])),(2,some (.row none 3 true 1 f9 (O9 (I9 a0))))],3⟩:Nat→St) (fun n=>n≤a0.length∧∀j z,j < n→a0[j]? =some z→U3 fs b z=true) (fun n=>a0.length - n) 0 ⟨⟨rfl,⟨rfl,⟨rfl,⟨rfl,⟨rfl,trivial⟩⟩⟩⟩⟩,⟨rfl,⟨rfl,⟨rfl,trivial⟩⟩⟩,rfl⟩ (by exact⟨Nat.zero_le _,fun j z h=>by omega⟩) ?_
     rintro n hI ih1
     try dsimp only at hI ih1
     obtain⟨k1,k2⟩:=hI
     refine t9<|rB<|c9<|k9 ?_
     refine j9 rfl (fun h9=>?_) (fun h9=>?_)
     ·
      have h9':=a8 h9
      refine m9<|k9<|p9<|t9 ?_
      obtain⟨z10,hz11,b12⟩:=v9 (xs:=a0) (n:=(n:Int)) (by omega) (by omega)
      refine d9 (Q9 rfl (by kernel_rfl) rfl rfl b12 hz11) ?_
      refine d9 (m6 rfl (n:=2) (by kernel_rfl) (by kernel_rfl) rfl rfl) ?_
      refine d9 (F9 3 (zs:=[.int .i64 0,.slice none 0 0]) rfl rfl (by kernel_rfl) rfl) ?_
      refine rS 2<|P8 ?_
      refine rC 2 ?_
      refine rM ?_
      rcases hm13:w6 b z10.2 with _ | q15
      ·
       refine d9 (n9 4 8 false (H9 Tryz.func78) (S5 z10.1 z10.2 b (by(have e1:=X7 (f:=(fun(x:Int ×(List Int))=>x.2.length)) (l:=a0) (m:=n) (by assumption);(try dsimp only at e1);omega)) (by exact hoa _ (D8 (by assumption))) _ hm13) rfl (.cons rfl (.agg (.cons .t0 (.cons .t0 .nil))) (.cons rfl (.c .t0) .nil)) rfl rfl rfl) ?_
       refine rM ?_
       refine d9 (D9 rfl rfl rfl rfl) ?_
       refine d9 (D9 rfl rfl rfl rfl) ?_
       refine d9 (F9 8 (zs:=[.int .i64 0,.slice none 0 0]) rfl rfl (by kernel_rfl) rfl) ?_
       refine rS 2 ?_
       refine rA<|P8 ?_
       refine rM ?_
       refine d9 (E8 rfl rfl) ?_
       refine rM ?_
       refine A9 (nc rfl) (fun _=>?_)
       refine A9 (nc rfl) (fun _=>?_)
       refine A9 (nc rfl) (fun _=>?_)
       refine A9 (nc rfl) (fun _=>?_)
       refine A9 (nc rfl) (fun _=>?_)
       refine d9 (M9 rfl rfl rfl rfl) ?_
       refine c9 ?_
       refine j9 rfl (fun _=>?_) (nc rfl)
       refine t9<|rA<|c9 ?_
       refine tk Tryz.func137 (.tmp rfl .nil) ?_ <;>(try clear ih0) <;>(try clear ih1)
       all_goals(refine K7 ?_;((have e:a0.all (U3 fs b)=false:=UU hz11 (by exact YQ (by assumption)));(unfold T4;rw [e];simp;done)))
      ·
       refine d9 (n9 4 8 false (H9 Tryz.func78) (S5 z10.1 z10.2 b (by(have e1:=X7 (f:=(fun(x:Int ×(List Int))=>x.2.length)) (l:=a0) (m:=n) (by assumption);(try dsimp only at e1);omega)) (by exact hoa _ (D8 (by assumption))) _ hm13) rfl (.cons rfl (.agg (.cons .t0 (.cons .t0 .nil))) (.cons rfl (.c .t0) .nil)) rfl rfl rfl) ?_
       refine rM ?_
       refine d9 (D9 rfl rfl rfl rfl) ?_
       refine d9 (D9 rfl rfl rfl rfl) ?_
       refine d9 (F9 8 (zs:=[.int .i64 0,.slice none 0 0]) rfl rfl (by kernel_rfl) rfl) ?_
       refine rS 2 ?_
       refine rA<|P8 ?_
       refine rM ?_
       refine d9 (E8 rfl rfl) ?_
       refine rM ?_
       refine A9 (fun _=>?_) (C9 rfl)
       refine rF 1 ?_
       refine A9 (fun _=>?_) (C9 rfl)
       refine rL ?_
       refine A9 (fun _=>?_) (C9 rfl)
       refine rC 2 ?_
       refine A9 (fun _=>?_) (C9 rfl)
       refine d9 (n9 9 9 false (H9 Tryz.func187) (CT fs z10.1 q15 (by omega) (by(have e5:=d5 (by assumption);have e1:=X7 (f:=(fun(x:Int ×(List Int))=>x.2.length)) (l:=a0) (m:=n) (by assumption);(try dsimp only at e1);omega))) rfl (.cons rfl (.c .t0) (.cons rfl (.agg (.cons .t0 (.cons (.own rfl) .nil))) .nil)) rfl rfl rfl) ?_
       refine A9 (fun _=>?_) (C9 rfl)
       refine d9 (E8 rfl rfl) ?_
       refine d9 (G9 rfl rfl rfl rfl) ?_
       refine c9 ?_
       refine j9 rfl (fun h16=>?_) (fun h16=>?_)
       ·
        have h16':=(d4 h16)
        refine t9<|rA<|c9 ?_
        refine tk Tryz.func137 (.tmp rfl .nil) ?_ <;>(try clear ih0) <;>(try clear ih1)
        all_goals(refine K7 ?_;((have e:a0.all (U3 fs b)=false:=UU hz11 (by(rw [BV (by assumption)];simp_all)));(unfold T4;rw [e];simp;done)))
       ·
        have h16':=(Y5 h16)
        refine m9<|i9<|l9<|rB ?_
        refine rM<|c9 ?_
        refine Z9 ?_ (ih1 (n + 1) (by(try dsimp only);omega) (by(try dsimp only);exact⟨by omega,UQ k2 hz11 rfl (by rw [BV (by assumption)];simp_all)⟩))
        exact⟨⟨rfl,⟨rfl,⟨rfl,⟨rfl,⟨(L7 (n8 (by omega) (by omega))),trivial⟩⟩⟩⟩⟩,⟨rfl,⟨rfl,⟨rfl,trivial⟩⟩⟩,rfl⟩
     ·
      have h9':=d8 h9
      refine N9 rfl<|t9<|rA<|c9 ?_
      refine tk Tryz.func137 (.tmp rfl .nil) ?_ <;>(try clear ih0) <;>(try clear ih1)
      all_goals(refine K7 ?_;(unfold T4;rw [QT i2 (by omega),LO k2 (by omega)];clear hrs hfs ho hs hoa hob g0 v0 v1;grind))
  ·
   have g2':=(d4 g2)
   refine A9 (nc g2) (fun _=>?_)
   refine A9 (nc g2) (fun _=>?_)
   refine d9 (M9 rfl rfl g2 rfl) ?_
   refine c9 ?_
   refine j9 rfl (fun _=>?_) (nc rfl)
   refine t9<|rA<|c9 ?_
   refine tk Tryz.func137 (.tmp rfl .nil) ?_ <;>(try clear ih0) <;>(try clear ih1)
   all_goals(refine K7 ?_;(unfold T4;clear hrs hfs ho hs hoa hob g0 v0 v1;grind))
 ·
  have g1':=(d4 g1)
  refine A9 (nc g1) (fun _=>?_)
  refine A9 (nc g1) (fun _=>?_)
  refine A9 (nc g1) (fun _=>?_)
  refine A9 (nc g1) (fun _=>?_)
  refine d9 (M9 rfl rfl g1 rfl) ?_
  refine rM ?_
  refine A9 (nc rfl) (fun _=>?_)
  refine A9 (nc rfl) (fun _=>?_)
  refine A9 (nc rfl) (fun _=>?_)
  refine d9 (M9 rfl rfl rfl rfl) ?_
  refine c9 ?_
  refine j9 rfl (fun _=>?_) (nc rfl)
  refine t9<|rA<|c9 ?_
  refine tk Tryz.func137 (.tmp rfl .nil) ?_ <;>(try clear ih0) <;>(try clear ih1)
  all_goals(refine K7 ?_;(unfold T4;clear hrs hfs ho hs hoa hob g0 v0 v1;grind))
theorem fW (rs:T9)(fs l:w9)(b:List Int)(hrs:rs.length≤4611686018427387904)(hfs:N8 (fun(x:Int ×(List Int))=>x.2.length) fs≤1048576)(hll:N8 (fun(x:Int ×(List Int))=>x.2.length) l≤1048576)(ho:∀z∈fs,∀x∈z.2,B7 x)(hbl:b.length≤1048576):Pu Tryz.prog 138 [.agg [.t none (.sl 3 (j8 Y9 f9 U9) rs),.t none (.sl 2 (y9 f9 (x9 1 f9)) fs)],.c (.t none (.sl 2 (y9 f9 (x9 1 f9)) l)),.c (.t none (.sl 1 f9 b))] [] 0 (.c (.t none (.v (.bool (ZR rs fs l b))))):=by
 refine S7 Tryz.func138 fun w S=>?_
 have gl:=I8 (f:=(fun(x:Int ×(List Int))=>x.2.length)) (l:=l)
 refine t9 ?_
 refine d9 (m8 0 rfl rfl rfl rfl) ?_
 refine rA<|c9<|k9 ?_
 refine tD (fun i=>!(Nat.beq i 14)) ?_
 refine dT 0 rfl (pC 2) ?_
 refine dT 1 rfl pM ?_
 refine dO 2 rfl (n9 1 1 false (H9 Tryz.func183) (D0 rs fs l (by omega) (by omega) (by omega) (by omega)) rfl (.cons rfl (.agg (.cons .t0 (.cons .t0 .nil))) (.cons rfl (.c .t0) .nil)) rfl rfl rfl) ?_
 refine dT 3 rfl pM ?_
 refine dH 4 rfl (fun _=>pM) (fun g1=>?_) (fun g1=>?_)
 ·
  have g1':=g1
  refine dH 5 rfl (fun _=>X6 rfl rfl) (fun _=>?_) (nc g1)
  refine dH 6 rfl (fun _=>pB) (fun _=>?_) (nc g1)
  refine dT 7 rfl (C8 rfl g1 rfl) ?_
  refine dT 8 rfl pM ?_
  refine dH 9 rfl (fun _=>pF 1) (fun g2=>?_) (fun g2=>?_)
  ·
   have g2':=a8 g2
   refine dH 10 rfl (fun _=>pL) (fun _=>?_) (nc g2)
   refine dH 11 rfl (fun _=>pM) (fun _=>?_) (nc g2)
   refine dH 12 rfl (fun _=>pM) (fun _=>?_) (nc g2)
   refine C7 13 rfl rfl (by kernel_rfl) rfl rfl rfl (fun _=>(n9 1 2 false (H9 Tryz.func75) (d6 b (by omega)) rfl (.cons rfl (.c .t0) .nil) rfl rfl rfl)) (fun _=>?_) (nc g2)
   refine C7 14 rfl rfl (by kernel_rfl) rfl rfl rfl (fun _=>(DV 1 (S9 fs l b) (H9 Tryz.func184) (fun U=>W3 U  fs l b (by exact(V7 (by assumption)).1) (by exact(V7 (by assumption)).2.1) (by omega) (by exact(V7 (by assumption)).2.2.1) (by exact(V7 (by assumption)).2.2.2)) rfl rfl (.cons rfl .t0 (.cons rfl .t0 (.cons rfl (.own rfl) .nil))))) (fun _=>?_) (nc g2)
   refine dH 15 rfl (fun _=>LZ rfl rfl rfl) (fun _=>?_) (nc g2)
   refine dH 16 rfl (fun _=>pB) (fun _=>?_) (nc g2)
   refine dT 17 rfl (C8 rfl g2 rfl) ?_
   refine dT 18 rfl pA ?_
   refine dE ?_
   refine tk Tryz.func138 (.tmp rfl .nil) ?_
   all_goals(refine K7 ?_;(try simp only [show(0:Int).toNat=0 from rfl,List.drop_zero] at *);clear hrs hfs hll ho gl;unfold ZR;grind)
  ·
   have g2':=d8 g2
   refine dG 10 (C9 g2) (fun _=>?_)
   refine dG 11 (C9 g2) (fun _=>?_)
   refine dG 12 (C9 g2) (fun _=>?_)
   refine dG 13 (C9 g2) (fun _=>?_)
   refine dG 14 (C9 g2) (fun _=>?_)
   refine dG 15 (C9 g2) (fun _=>?_)
   refine dG 16 (C9 g2) (fun _=>?_)
   refine dT 17 rfl (r8 rfl g2 rfl) ?_
   refine dT 18 rfl pA ?_
   refine dE ?_
   refine tk Tryz.func138 (.tmp rfl .nil) ?_
   all_goals(refine K7 ?_;(try simp only [show(0:Int).toNat=0 from rfl,List.drop_zero] at *);clear hrs hfs hll ho gl;unfold ZR;grind)
 ·
  have g1':=g1
  refine dG 5 (C9 g1) (fun _=>?_)
  refine dG 6 (C9 g1) (fun _=>?_)
  refine dT 7 rfl (r8 rfl g1 rfl) ?_
  refine dT 8 rfl pM ?_
  refine dG 9 (C9 rfl) (fun _=>?_)
  refine dG 10 (C9 rfl) (fun _=>?_)
  refine dG 11 (C9 rfl) (fun _=>?_)
  refine dG 12 (C9 rfl) (fun _=>?_)
  refine dG 13 (C9 rfl) (fun _=>?_)
  refine dG 14 (C9 rfl) (fun _=>?_)
  refine dG 15 (C9 rfl) (fun _=>?_)
  refine dG 16 (C9 rfl) (fun _=>?_)
  refine dT 17 rfl (r8 rfl rfl rfl) ?_
  refine dT 18 rfl pA ?_
  refine dE ?_
  refine tk Tryz.func138 (.tmp rfl .nil) ?_
  all_goals(refine K7 ?_;(try simp only [show(0:Int).toNat=0 from rfl,List.drop_zero] at *);clear hrs hfs hll ho gl;unfold ZR;grind)
theorem L3 (rs:T9)(fs:w9)(a0:List (Int ×(List Int)))(a1:List (Int ×(List Int)))(a2:Bool)(a3:Int)(a4:Int)(b:List Int)(hrs:rs.length≤4611686018427387904)(hfs:N8 (fun(x:Int ×(List Int))=>x.2.length) fs≤1048576)(ho:∀z∈fs,∀x∈z.2,B7 x)(hs:N8 (fun(x:Int ×(List Int))=>x.2.length) a0 + N8 (fun(x:Int ×(List Int))=>x.2.length) a1≤1048576)(hoa:∀z∈a0,∀x∈z.2,B7 x)(hob:∀x∈b,B7 x)(hbl:b.length≤1048576):Pu Tryz.prog 73 [.agg [.t none (.sl 3 (j8 Y9 f9 U9) rs),.t none (.sl 2 (y9 f9 (x9 1 f9)) fs)],.agg [.t none (.sl 2 (y9 f9 (x9 1 f9)) a0),.t none (.sl 2 (y9 f9 (x9 1 f9)) a1),.t none (.v (.bool a2)),.t none (.v (.int .i64 a3)),.t none (.v (.int .i64 a4))],.c (.t none (.sl 1 f9 b))] [] 0 (.c (.t none (.v (.bool (f6 rs fs a0 a1 a2 a3 a4 b))))):=by
 refine S7 Tryz.func73 fun w S=>?_
 have g0:=I8 (f:=(fun(x:Int ×(List Int))=>x.2.length)) (l:=a0);have v0:=Q7 (I9 a0);have v1:=F7 a0
 refine t9 ?_
 refine d9 (m8 0 rfl rfl rfl rfl) ?_
 refine d9 (m8 1 rfl rfl rfl rfl) ?_
 refine rA<|c9<|k9<|t9 ?_
 refine rC 2 ?_
 refine rC 5 ?_
 refine rM ?_
 refine d9 (n9 2 2 false (H9 Tryz.func137) (HV rs fs a0 a1 a2 a3 a4 b (by omega) (by omega) (by omega) (by omega) (by omega) (by omega) (by omega)) rfl (.cons rfl (.agg (.cons .t0 (.cons .t0 .nil))) (.cons rfl (.agg (.cons .t0 (.cons .t0 (.cons .t0 (.cons .t0 (.cons .t0 .nil)))))) (.cons rfl (.c .t0) .nil))) rfl rfl rfl) ?_
 refine d9 (E8 rfl rfl) ?_
 refine c9 ?_
 refine j9 rfl (fun h1=>?_) (fun h1=>?_)
 ·
  have h1':=(d4 h1)
  refine t9<|rA<|c9 ?_
  refine tk Tryz.func73 (.tmp rfl .nil) ?_
  all_goals(refine K7 ?_;unfold f6;clear hrs hfs ho hs hoa hob g0 v0 v1;grind)
 ·
  have h1':=(Y5 h1)
  refine m9<|k9<|t9<|rF 2 ?_
  refine rL<|c9 ?_
  refine j9 rfl (fun h2=>?_) (fun h2=>?_)
  ·
   have h2':=h2
   refine k9 ?_
   refine tY ?_
   refine dT 0 rfl pM ?_
   refine dT 1 rfl (pF 3) ?_
   refine dT 2 rfl pL ?_
   obtain⟨z3,hz4,b5⟩:=v9 (xs:=b) (n:=a3) (by exact(F5 (by assumption) (by assumption)).1.1) (by exact(F5 (by assumption) (by assumption)).1.2)
   refine dT 3 rfl (p8 (by kernel_rfl) rfl rfl b5 hz4) ?_
   refine dT 4 rfl (Y8 (by kernel_rfl) rfl rfl) ?_
   refine dT 5 rfl pM ?_
   refine dT 6 rfl (pF 4) ?_
   refine dT 7 rfl pL ?_
   obtain⟨z6,hz7,b8⟩:=v9 (xs:=b) (n:=a4) (by exact(F5 (by assumption) (by assumption)).2.1) (by exact(F5 (by assumption) (by assumption)).2.2)
   refine dT 8 rfl (p8 (by kernel_rfl) rfl rfl b8 hz7) ?_
   refine dT 9 rfl (Y8 (by kernel_rfl) rfl rfl) ?_
   refine dT 10 rfl pB ?_
   refine dT 11 rfl pA ?_
   refine dE ?_
   refine tk Tryz.func73 (.tmp rfl .nil) ?_
   all_goals(refine K7 ?_;unfold f6;clear hrs hfs ho hs hoa hob g0 v0 v1;(have e1:=LU hz4;have e2:=LU hz7;rw [e1,e2];grind))
  ·
   have h2':=h2
   refine m9<|t9<|rC 2 ?_
   refine rF 1 ?_
   refine rL ?_
   refine rM ?_
   refine d9 (n9 2 2 false (H9 Tryz.func138) (fW rs fs a1 b (by omega) (by omega) (by omega) (by omega) (by omega)) rfl (.cons rfl (.agg (.cons .t0 (.cons .t0 .nil))) (.cons rfl (.c .t0) (.cons rfl (.c .t0) .nil))) rfl rfl rfl) ?_
   refine d9 (E8 rfl rfl) ?_
   refine rA<|c9 ?_
   refine tk Tryz.func73 (.tmp rfl .nil) ?_
   all_goals(refine K7 ?_;unfold f6;clear hrs hfs ho hs hoa hob g0 v0 v1;grind)
end Go.Eng
