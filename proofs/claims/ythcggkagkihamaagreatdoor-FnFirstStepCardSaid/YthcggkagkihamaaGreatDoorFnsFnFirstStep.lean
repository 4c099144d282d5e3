/- What the functions that FnFirstStep reaches answer. -/
import Derived.Test.YthcggkagkihamaaGreatDoorFnsFnFirstStepp3
import Derived.Test.YthcggkagkihamaaGreatDoorEngZO
import Derived.Test.YthcggkagkihamaaGreatDoorChecked
set_option linter.unusedVariables false
set_option linter.unusedSimpArgs false
namespace Go.Eng
open Go Go.RowKit Go.Proofs
set_option maxHeartbeats 1000000
set_option maxRecDepth 10000
set_option maxHeartbeats 4000000 in
theorem EW (code:List Int)(hcl:code.length≤9223372036854775807):aL (DT Tryz.prog) Tryz.prog 3 [.c (.t none (.sl 1 u7 code))] [] 0 (.c (.t none (.v (.bool true)))):=by
 refine PX Tryz.func3 rfl (Nat.le_of_ble_eq_true rfl) fun w S hT=>?_
 refine t9<|rA<|c9<|k9<|t9 ?_
 refine rM ?_
 refine d9 (n9 0 0 false (H9 Tryz.func5) (sO code) rfl (.cons rfl (.c .t0) .nil) rfl rfl rfl) ?_
 refine c9 ?_
 refine j9 rfl (fun h1=>?_) (fun h1=>?_)
 ·
  have h1':=a8 h1
  refine t9<|rA<|c9 ?_
  refine tk Tryz.func3 (.tmp rfl .nil) ?_
  all_goals rfl
 ·
  have h1':=d8 h1
  refine m9<|t9<|rM ?_
  refine K8 (R4 0 0 (H9 Tryz.func6) (sX code (by omega)) rfl (.cons rfl (.c .t0) .nil) rfl rfl) ?_
  rintro⟨⟨rs2,fs3,ds4⟩,hq5⟩
  try dsimp only at hq5
  try dsimp only
  obtain⟨q6,q7,q8⟩:=hq5
  have hx0:NY rs2 fs3:=(by assumption);obtain⟨hx1,hx2,hx3,hx4⟩:=hx0;have xs1:=s0 hx4;have xs3:=bV hx4;have dd:∀d∈ds4,R1 d:=(by assumption);have dl:ds4.length≤6:=(by assumption);have ds1:=fJ dl dd;have hod:∀d∈ds4,∀z∈d.1,∀x∈z.2,B7 x:=(fun d hd=>IX (dd d hd).2.2.1);have hoe:∀d∈ds4,∀z∈d.2.1,∀x∈z.2,B7 x:=(fun d hd=>IX (dd d hd).2.2.2.1);have FZ:=WN (rs:=rs2) (fs:=fs3) (ds:=ds4);have FN:B6 rs2 fs3 ds4=false→CU rs2 fs3 ds4=rs2∧MV rs2 fs3 ds4=fs3:=(fun h=>⟨(RT h).1,(RT h).2.1⟩);have fl:=uK rs2 fs3 ds4;have fz:N8 (fun(x:Int ×(List Int))=>x.2.length) (MV rs2 fs3 ds4)≤N8 (fun(x:Int ×(List Int))=>x.2.length) fs3 + N8 (fun(x:(List (Int ×(List Int))) ×(List (Int ×(List Int))) × Bool × Int × Int)=>(N8 (fun(x:Int ×(List Int))=>x.2.length) x.1) +(N8 (fun(x:Int ×(List Int))=>x.2.length) x.2.1)) ds4:=pI rs2 fs3 ds4;have vb:=zT (rs:=rs2) (fs:=fs3) (ds:=ds4)
  refine rM ?_
  refine d9 (D9 rfl rfl rfl rfl) ?_
  refine d9 (D9 rfl rfl rfl rfl) ?_
  refine d9 (F9 0 (zs:=[.slice none 0 0,.slice none 0 0]) rfl rfl (by kernel_rfl) rfl) ?_
  refine rS 2 ?_
  refine rA<|P8 ?_
  refine rC 2 ?_
  refine rM ?_
  refine KO (MU 1 7 (H9 Tryz.func7) (GV rs2 fs3 ds4 (by omega) (by omega) (by omega) (by omega) (by omega)) rfl (.cons rfl (.agg (.cons .t0 (.cons .t0 .nil))) (.cons rfl (.c .t0) .nil)) (fun _=>rfl) rfl rfl) fun e9=>?_
  refine rM ?_
  refine d9 (D9 rfl rfl rfl rfl) ?_
  refine d9 (D9 rfl rfl rfl rfl) ?_
  refine d9 (D9 rfl rfl rfl rfl) ?_
  refine d9 (F9 7 (zs:=[.slice none 0 0,.slice none 0 0]) rfl rfl (by kernel_rfl) rfl) ?_
  refine d9 (F9 8 (zs:=[.int .i64 0,.slice none 0 0]) rfl rfl (by kernel_rfl) rfl) ?_
  refine rS 2 ?_
  refine rS 2 ?_
  refine rA<|P8 ?_
  refine rC 2 ?_
  refine rM ?_
  refine d9 (n9 9 9 true (H9 Tryz.func8) (dU rs2 fs3 ds4 (by omega) (by omega) (by omega) (by omega) (by omega)) rfl (.cons rfl (.agg (.cons .t0 (.cons .t0 .nil))) (.cons rfl (.c .t0) .nil)) rfl rfl rfl) ?_
  refine rM ?_
  refine d9 (D9 rfl rfl rfl rfl) ?_
  refine d9 (D9 rfl rfl rfl rfl) ?_
  refine d9 (D9 rfl rfl rfl rfl) ?_
  refine d9 (F9 9 (zs:=[.slice none 0 0,.slice none 0 0]) rfl rfl (by kernel_rfl) rfl) ?_
  refine d9 (F9 10 (zs:=[.int .i64 0,.slice none 0 0]) rfl rfl (by kernel_rfl) rfl) ?_
  refine rS 2 ?_
  refine rS 2 ?_
  refine rA<|c9<|k9<|t9 ?_
  refine rM ?_
  refine rM ?_
  refine rB ?_
  refine rM ?_
  refine A9 (fun g10=>?_) (fun g10=>?_)
  ·
   have g10':=d8 g10
   refine rC 2 ?_
   refine A9 (fun _=>?_) (C9 g10)
   refine rC 2 ?_
   refine A9 (fun _=>?_) (C9 g10)
   refine d9 (n9 11 11 false (H9 Tryz.func9) (C2 (CU rs2 fs3 ds4) (MV rs2 fs3 ds4) (CU rs2 fs3 ds4) (MV rs2 fs3 ds4) (by omega) (by omega) (by omega) (by omega)) rfl (.cons rfl (.agg (.cons (.own rfl) (.cons (.own rfl) .nil))) (.cons rfl (.agg (.cons .t0 (.cons .t0 .nil))) .nil)) rfl rfl rfl) ?_
   refine A9 (fun _=>?_) (C9 g10)
   refine d9 (E8 rfl rfl) ?_
   refine d9 (G9 rfl rfl g10 rfl) ?_
   refine rM ?_
   refine A9 (fun g11=>?_) (fun g11=>?_)
   ·
    have g11':=g11
    try simp only [decide_eq_true_eq,decide_eq_false_iff_not,Bool.not_eq_true',Bool.not_eq_false',Bool.not_false,Bool.not_true] at g11'
    refine rF 0 ?_
    refine A9 (fun _=>?_) (C9 g11)
    refine rL ?_
    refine A9 (fun _=>?_) (C9 g11)
    refine rF 0 ?_
    refine A9 (fun _=>?_) (C9 g11)
    refine rL ?_
    refine A9 (fun _=>?_) (C9 g11)
    refine rB ?_
    refine d9 (G9 rfl rfl g11 rfl) ?_
    refine rM ?_
    refine A9 (fun g12=>?_) (fun g12=>?_)
    ·
     have g12':=d8 g12
     refine rF 1 ?_
     refine A9 (fun _=>?_) (C9 g12)
     refine rL ?_
     refine A9 (fun _=>?_) (C9 g12)
     refine rF 1 ?_
     refine A9 (fun _=>?_) (C9 g12)
     refine rL ?_
     refine A9 (fun _=>?_) (C9 g12)
     refine d9 (n9 11 11 false (H9 Tryz.func10) (HU (P3 rs2 fs3 ds4) (P3 rs2 fs3 ds4) (by omega)) rfl (.cons rfl (.c (.own rfl)) (.cons rfl (.c .t0) .nil)) rfl rfl rfl) ?_
     refine A9 (fun _=>?_) (C9 g12)
     refine d9 (E8 rfl rfl) ?_
     refine d9 (G9 rfl rfl g12 rfl) ?_
     refine c9 ?_
     refine j9 rfl (fun h13=>?_) (fun h13=>?_)
     ·
      have h13':=d8 (d4 h13)
      refine t9<|rA<|c9 ?_
      refine tk Tryz.func3 (.tmp rfl .nil) ?_
      all_goals((exfalso;(try clear ys3);clear hod hoe xs3;grind))
     ·
      have h13':=a8 (Y5 h13)
      refine m9<|t9<|rC 2 ?_
      refine rM ?_
      refine KO (MU 11 12 (H9 Tryz.func11) (F2 rs2 fs3 ds4 (by omega) (by omega) (by omega) (by omega) (by omega)) rfl (.cons rfl (.agg (.cons .t0 (.cons .t0 .nil))) (.cons rfl (.c .t0) .nil)) (fun _=>rfl) rfl rfl) fun e14=>?_
      refine rM ?_
      refine d9 (D9 rfl rfl rfl rfl) ?_
      refine d9 (D9 rfl rfl rfl rfl) ?_
      refine d9 (D9 rfl rfl rfl rfl) ?_
      refine rA ?_
      refine rA ?_
      refine rA<|P8 ?_
      refine rM ?_
      refine K8 (R4 12 12 (H9 Tryz.func12) (YY code (by omega)) rfl (.cons rfl (.c .t0) .nil) rfl rfl) ?_
      rintro⟨⟨d15,v16⟩,hq17⟩
      try dsimp only at hq17
      try dsimp only
      obtain⟨q18,q19,q20⟩:=hq17
      refine d9 (F9 12 (zs:=[.int .i64 0,.slice none 0 0]) rfl rfl (by kernel_rfl) rfl) ?_
      refine rS 2<|P8 ?_
      refine rM ?_
      refine K8 (R4 13 13 (H9 Tryz.func13) (QY code (by omega)) rfl (.cons rfl (.c .t0) .nil) rfl rfl) ?_
      rintro⟨kk21,hq22⟩
      try dsimp only at hq22
      try dsimp only
      refine rA<|P8 ?_
      refine rM ?_
      refine K8 (R4 13 13 (H9 Tryz.func14) (bW code (by omega)) rfl (.cons rfl (.c .t0) .nil) rfl rfl) ?_
      rintro⟨⟨rs224,fs225⟩,hq26⟩
      try dsimp only at hq26
      try dsimp only
      have y0:NY rs224 fs225:=(by assumption);obtain⟨hy1,hy2,hy3,hy4⟩:=y0;have ys1:=s0 hy4;have ys3:=bV hy4
      refine d9 (F9 13 (zs:=[.slice none 0 0,.slice none 0 0]) rfl rfl (by kernel_rfl) rfl) ?_
      refine rS 2<|c9<|k9 ?_
      refine tY ?_
      refine dT 0 rfl pM ?_
      refine dT 1 rfl pB ?_
      refine dT 2 rfl pM ?_
      refine dT 3 rfl (R3 rfl) ?_
      refine dT 4 rfl (IL Tryz.underlying4 rfl rfl) ?_
      refine dT 5 rfl pM ?_
      refine dH 6 rfl (fun _=>pM) (fun g28=>?_) (fun g28=>?_)
      ·
       have g28':=g28
       try simp only [decide_eq_true_eq,decide_eq_false_iff_not,Bool.not_eq_true',Bool.not_eq_false',Bool.not_false,Bool.not_true] at g28'
       refine dH 7 rfl (fun _=>pB) (fun _=>?_) (nc g28)
       refine dH 8 rfl (fun _=>pM) (fun _=>?_) (nc g28)
       refine dH 9 rfl (fun _=>pC 2) (fun g29=>?_) (fun g29=>?_)
       ·
        have g29':=d8 g29
        refine dH 10 rfl (fun _=>pC 2) (fun _=>?_) (C9 g29)
        refine C7 11 rfl rfl (by kernel_rfl) rfl rfl rfl (fun _=>(n9 14 14 false (H9 Tryz.func9) (C2 (CU rs2 fs3 ds4) (MV rs2 fs3 ds4) rs2 fs3 (by omega) (by omega) (by omega) (by omega)) rfl (.cons rfl (.agg (.cons (.own rfl) (.cons (.own rfl) .nil))) (.cons rfl (.agg (.cons .t0 (.cons .t0 .nil))) .nil)) rfl rfl rfl)) (fun _=>?_) (C9 g29)
        refine dH 12 rfl (fun _=>r8 rfl g29 rfl) (fun _=>?_) (nc g28)
        refine dT 13 rfl (C8 rfl g28 rfl) ?_
        refine dT 14 rfl pM ?_
        refine dH 15 rfl (fun _=>pC 2) (fun g30=>?_) (fun g30=>?_)
        ·
         have g30':=g30
         try simp only [decide_eq_true_eq,decide_eq_false_iff_not,Bool.not_eq_true',Bool.not_eq_false',Bool.not_false,Bool.not_true] at g30'
         refine dH 17 rfl (fun _=>pC 2) (fun _=>?_) (nc g30)
         refine C7 16 rfl rfl (by kernel_rfl) rfl rfl rfl (fun _=>(HY (fun _ hk=>nZ hk hT) 14 14 false (H9 Tryz.func15) (GZ d15 v16 (by omega) (by omega) (by omega)) rfl (.cons rfl (.agg (.cons .t0 (.cons .t0 .nil))) .nil) rfl rfl rfl)) (fun _=>?_) (nc g30)
         refine C7 18 rfl rfl (by kernel_rfl) rfl rfl rfl (fun _=>(n9 14 14 false (H9 Tryz.func16) (yZ d15 v16 (by omega) (by omega) (by omega)) rfl (.cons rfl (.agg (.cons .t0 (.cons .t0 .nil))) .nil) rfl rfl rfl)) (fun _=>?_) (nc g30)
         refine dH 19 rfl (fun _=>ZT rfl rfl rfl) (fun _=>?_) (nc g30)
         refine dT 20 rfl (C8 rfl g30 rfl) ?_
         refine dT 21 rfl pM ?_
         refine dH 22 rfl (fun _=>pM) (fun g31=>?_) (fun g31=>?_)
         ·
          have g31':=a8 g31
          refine dH 24 rfl (fun _=>pM) (fun _=>?_) (nc g31)
          refine C7 23 rfl rfl (by kernel_rfl) rfl rfl rfl (fun _=>(n9 14 14 false (H9 Tryz.func17) (CZ kk21 (by omega)) rfl (.cons rfl (.c .t0) .nil) rfl rfl rfl)) (fun _=>?_) (nc g31)
          refine C7 25 rfl rfl (by kernel_rfl) rfl rfl rfl (fun _=>(n9 14 14 false (H9 Tryz.func18) (JZ kk21 (by omega)) rfl (.cons rfl (.c .t0) .nil) rfl rfl rfl)) (fun _=>?_) (nc g31)
          refine dH 26 rfl (fun _=>ZT rfl rfl rfl) (fun _=>?_) (nc g31)
          refine dT 27 rfl (C8 rfl g31 rfl) ?_
          refine dT 28 rfl pM ?_
          refine dH 29 rfl (fun _=>pC 2) (fun g32=>?_) (fun g32=>?_)
          ·
           have g32':=a8 g32
           refine dH 31 rfl (fun _=>pC 2) (fun _=>?_) (nc g32)
           refine C7 30 rfl rfl (by kernel_rfl) rfl rfl rfl (fun _=>(n9 14 14 false (H9 Tryz.func19) (X1 rs224 fs225 (by omega) (by omega)) rfl (.cons rfl (.agg (.cons .t0 (.cons .t0 .nil))) .nil) rfl rfl rfl)) (fun _=>?_) (nc g32)
           refine C7 32 rfl rfl (by kernel_rfl) rfl rfl rfl (fun _=>(n9 14 14 false (H9 Tryz.func20) (O1 rs224 fs225 (by omega) (by omega)) rfl (.cons rfl (.agg (.cons .t0 (.cons .t0 .nil))) .nil) rfl rfl rfl)) (fun _=>?_) (nc g32)
           refine dH 33 rfl (fun _=>pB) (fun _=>?_) (nc g32)
           refine dT 34 rfl (C8 rfl g32 rfl) ?_
           refine dT 35 rfl pA ?_
           refine dE ?_
           refine tk Tryz.func3 (.tmp rfl .nil) ?_
           all_goals((refine K7 ?_;(try clear ys3);clear hod hoe xs3;grind))
          ·
           have g32':=d8 g32
           refine dG 30 (C9 g32) (fun _=>?_)
           refine dG 31 (C9 g32) (fun _=>?_)
           refine dG 32 (C9 g32) (fun _=>?_)
           refine dG 33 (C9 g32) (fun _=>?_)
           refine dT 34 rfl (r8 rfl g32 rfl) ?_
           refine dT 35 rfl pA ?_
           refine dE ?_
           refine tk Tryz.func3 (.tmp rfl .nil) ?_
           all_goals((exfalso;(try clear ys3);clear hod hoe xs3;grind))
         ·
          have g31':=d8 g31
          refine dG 23 (C9 g31) (fun _=>?_)
          refine dG 24 (C9 g31) (fun _=>?_)
          refine dG 25 (C9 g31) (fun _=>?_)
          refine dG 26 (C9 g31) (fun _=>?_)
          refine dT 27 rfl (r8 rfl g31 rfl) ?_
          refine dT 28 rfl pM ?_
          refine dG 29 (C9 rfl) (fun _=>?_)
          refine dG 30 (C9 rfl) (fun _=>?_)
          refine dG 31 (C9 rfl) (fun _=>?_)
          refine dG 32 (C9 rfl) (fun _=>?_)
          refine dG 33 (C9 rfl) (fun _=>?_)
          refine dT 34 rfl (r8 rfl rfl rfl) ?_
          refine dT 35 rfl pA ?_
          refine dE ?_
          refine tk Tryz.func3 (.tmp rfl .nil) ?_
          all_goals((exfalso;(try clear ys3);clear hod hoe xs3;grind))
        ·
         have g30':=g30
         try simp only [decide_eq_true_eq,decide_eq_false_iff_not,Bool.not_eq_true',Bool.not_eq_false',Bool.not_false,Bool.not_true] at g30'
         refine dG 16 (C9 g30) (fun _=>?_)
         refine dG 17 (C9 g30) (fun _=>?_)
         refine dG 18 (C9 g30) (fun _=>?_)
         refine dG 19 (C9 g30) (fun _=>?_)
         refine dT 20 rfl (r8 rfl g30 rfl) ?_
         refine dT 21 rfl pM ?_
         refine dG 22 (C9 rfl) (fun _=>?_)
         refine dG 23 (C9 rfl) (fun _=>?_)
         refine dG 24 (C9 rfl) (fun _=>?_)
         refine dG 25 (C9 rfl) (fun _=>?_)
         refine dG 26 (C9 rfl) (fun _=>?_)
         refine dT 27 rfl (r8 rfl rfl rfl) ?_
         refine dT 28 rfl pM ?_
         refine dG 29 (C9 rfl) (fun _=>?_)
         refine dG 30 (C9 rfl) (fun _=>?_)
         refine dG 31 (C9 rfl) (fun _=>?_)
         refine dG 32 (C9 rfl) (fun _=>?_)
         refine dG 33 (C9 rfl) (fun _=>?_)
         refine dT 34 rfl (r8 rfl rfl rfl) ?_
         refine dT 35 rfl pA ?_
         refine dE ?_
         refine tk Tryz.func3 (.tmp rfl .nil) ?_
         all_goals((exfalso;(try clear ys3);clear hod hoe xs3;grind))
       ·
        have g29':=a8 g29
        refine dG 10 (nc g29) (fun _=>?_)
        refine dG 11 (nc g29) (fun _=>?_)
        refine dH 12 rfl (fun _=>C8 rfl g29 rfl) (fun _=>?_) (nc g28)
        refine dT 13 rfl (C8 rfl g28 rfl) ?_
        refine dT 14 rfl pM ?_
        refine dH 15 rfl (fun _=>pC 2) (fun _=>?_) (nc rfl)
        refine dH 17 rfl (fun _=>pC 2) (fun _=>?_) (nc rfl)
        refine C7 16 rfl rfl (by kernel_rfl) rfl rfl rfl (fun _=>(HY (fun _ hk=>nZ hk hT) 14 14 false (H9 Tryz.func15) (GZ d15 v16 (by omega) (by omega) (by omega)) rfl (.cons rfl (.agg (.cons .t0 (.cons .t0 .nil))) .nil) rfl rfl rfl)) (fun _=>?_) (nc rfl)
        refine C7 18 rfl rfl (by kernel_rfl) rfl rfl rfl (fun _=>(n9 14 14 false (H9 Tryz.func16) (yZ d15 v16 (by omega) (by omega) (by omega)) rfl (.cons rfl (.agg (.cons .t0 (.cons .t0 .nil))) .nil) rfl rfl rfl)) (fun _=>?_) (nc rfl)
        refine dH 19 rfl (fun _=>ZT rfl rfl rfl) (fun _=>?_) (nc rfl)
        refine dT 20 rfl (C8 rfl rfl rfl) ?_
        refine dT 21 rfl pM ?_
        refine dH 22 rfl (fun _=>pM) (fun g33=>?_) (fun g33=>?_)
        ·
         have g33':=a8 g33
         refine dH 24 rfl (fun _=>pM) (fun _=>?_) (nc g33)
         refine C7 23 rfl rfl (by kernel_rfl) rfl rfl rfl (fun _=>(n9 14 14 false (H9 Tryz.func17) (CZ kk21 (by omega)) rfl (.cons rfl (.c .t0) .nil) rfl rfl rfl)) (fun _=>?_) (nc g33)
         refine C7 25 rfl rfl (by kernel_rfl) rfl rfl rfl (fun _=>(n9 14 14 false (H9 Tryz.func18) (JZ kk21 (by omega)) rfl (.cons rfl (.c .t0) .nil) rfl rfl rfl)) (fun _=>?_) (nc g33)
         refine dH 26 rfl (fun _=>ZT rfl rfl rfl) (fun _=>?_) (nc g33)
         refine dT 27 rfl (C8 rfl g33 rfl) ?_
         refine dT 28 rfl pM ?_
         refine dH 29 rfl (fun _=>pC 2) (fun g34=>?_) (fun g34=>?_)
         ·
          have g34':=a8 g34
          refine dH 31 rfl (fun _=>pC 2) (fun _=>?_) (nc g34)
          refine C7 30 rfl rfl (by kernel_rfl) rfl rfl rfl (fun _=>(n9 14 14 false (H9 Tryz.func19) (X1 rs224 fs225 (by omega) (by omega)) rfl (.cons rfl (.agg (.cons .t0 (.cons .t0 .nil))) .nil) rfl rfl rfl)) (fun _=>?_) (nc g34)
          refine C7 32 rfl rfl (by kernel_rfl) rfl rfl rfl (fun _=>(n9 14 14 false (H9 Tryz.func20) (O1 rs224 fs225 (by omega) (by omega)) rfl (.cons rfl (.agg (.cons .t0 (.cons .t0 .nil))) .nil) rfl rfl rfl)) (fun _=>?_) (nc g34)
          refine dH 33 rfl (fun _=>pB) (fun _=>?_) (nc g34)
          refine dT 34 rfl (C8 rfl g34 rfl) ?_
          refine dT 35 rfl pA ?_
          refine dE ?_
          refine tk Tryz.func3 (.tmp rfl .nil) ?_
          all_goals((refine K7 ?_;(try clear ys3);clear hod hoe xs3;grind))
         ·
          have g34':=d8 g34
          refine dG 30 (C9 g34) (fun _=>?_)
          refine dG 31 (C9 g34) (fun _=>?_)
          refine dG 32 (C9 g34) (fun _=>?_)
          refine dG 33 (C9 g34) (fun _=>?_)
          refine dT 34 rfl (r8 rfl g34 rfl) ?_
          refine dT 35 rfl pA ?_
          refine dE ?_
          refine tk Tryz.func3 (.tmp rfl .nil) ?_
          all_goals((exfalso;(try clear ys3);clear hod hoe xs3;grind))
        ·
         have g33':=d8 g33
         refine dG 23 (C9 g33) (fun _=>?_)
         refine dG 24 (C9 g33) (fun _=>?_)
         refine dG 25 (C9 g33) (fun _=>?_)
         refine dG 26 (C9 g33) (fun _=>?_)
         refine dT 27 rfl (r8 rfl g33 rfl) ?_
         refine dT 28 rfl pM ?_
         refine dG 29 (C9 rfl) (fun _=>?_)
         refine dG 30 (C9 rfl) (fun _=>?_)
         refine dG 31 (C9 rfl) (fun _=>?_)
         refine dG 32 (C9 rfl) (fun _=>?_)
         refine dG 33 (C9 rfl) (fun _=>?_)
         refine dT 34 rfl (r8 rfl rfl rfl) ?_
         refine dT 35 rfl pA ?_
         refine dE ?_
         refine tk Tryz.func3 (.tmp rfl .nil) ?_
         all_goals((exfalso;(try clear ys3);clear hod hoe xs3;grind))
      ·
       have g28':=g28
       try simp only [decide_eq_true_eq,decide_eq_false_iff_not,Bool.not_eq_true',Bool.not_eq_false',Bool.not_false,Bool.not_true] at g28'
       refine dG 7 (C9 g28) (fun _=>?_)
       refine dG 8 (C9 g28) (fun _=>?_)
       refine dK 9 ?_
       refine dK 10 ?_
       refine dK 11 ?_
       refine dG 12 (C9 g28) (fun _=>?_)
       refine dT 13 rfl (r8 rfl g28 rfl) ?_
       refine dT 14 rfl pM ?_
       refine dG 15 (C9 rfl) (fun _=>?_)
       refine dG 16 (C9 rfl) (fun _=>?_)
       refine dG 17 (C9 rfl) (fun _=>?_)
       refine dG 18 (C9 rfl) (fun _=>?_)
       refine dG 19 (C9 rfl) (fun _=>?_)
       refine dT 20 rfl (r8 rfl rfl rfl) ?_
       refine dT 21 rfl pM ?_
       refine dG 22 (C9 rfl) (fun _=>?_)
       refine dG 23 (C9 rfl) (fun _=>?_)
       refine dG 24 (C9 rfl) (fun _=>?_)
       refine dG 25 (C9 rfl) (fun _=>?_)
       refine dG 26 (C9 rfl) (fun _=>?_)
       refine dT 27 rfl (r8 rfl rfl rfl) ?_
       refine dT 28 rfl pM ?_
       refine dG 29 (C9 rfl) (fun _=>?_)
       refine dG 30 (C9 rfl) (fun _=>?_)
       refine dG 31 (C9 rfl) (fun _=>?_)
       refine dG 32 (C9 rfl) (fun _=>?_)
       refine dG 33 (C9 rfl) (fun _=>?_)
       refine dT 34 rfl (r8 rfl rfl rfl) ?_
       refine dT 35 rfl pA ?_
       refine dE ?_
       refine tk Tryz.func3 (.tmp rfl .nil) ?_
       all_goals((exfalso;(try clear ys3);clear hod hoe xs3;grind))
    ·
     have g12':=a8 g12
     refine A9 (nc g12) (fun _=>?_)
     refine A9 (nc g12) (fun _=>?_)
     refine A9 (nc g12) (fun _=>?_)
     refine A9 (nc g12) (fun _=>?_)
     refine A9 (nc g12) (fun _=>?_)
     refine d9 (M9 rfl rfl g12 rfl) ?_
     refine c9 ?_
     refine j9 rfl (fun _=>?_) (nc rfl)
     refine t9<|rA<|c9 ?_
     refine tk Tryz.func3 (.tmp rfl .nil) ?_
     all_goals((exfalso;(try clear ys3);clear hod hoe xs3;grind))
   ·
    have g11':=g11
    try simp only [decide_eq_true_eq,decide_eq_false_iff_not,Bool.not_eq_true',Bool.not_eq_false',Bool.not_false,Bool.not_true] at g11'
    refine A9 (nc g11) (fun _=>?_)
    refine A9 (nc g11) (fun _=>?_)
    refine A9 (nc g11) (fun _=>?_)
    refine A9 (nc g11) (fun _=>?_)
    refine d9 (M9 rfl rfl g11 rfl) ?_
    refine rM ?_
    refine A9 (nc rfl) (fun _=>?_)
    refine A9 (nc rfl) (fun _=>?_)
    refine A9 (nc rfl) (fun _=>?_)
    refine A9 (nc rfl) (fun _=>?_)
    refine A9 (nc rfl) (fun _=>?_)
    refine A9 (nc rfl) (fun _=>?_)
    refine d9 (M9 rfl rfl rfl rfl) ?_
    refine c9 ?_
    refine j9 rfl (fun _=>?_) (nc rfl)
    refine t9<|rA<|c9 ?_
    refine tk Tryz.func3 (.tmp rfl .nil) ?_
    all_goals((exfalso;(try clear ys3);clear hod hoe xs3;grind))
  ·
   have g10':=a8 g10
   refine A9 (nc g10) (fun _=>?_)
   refine A9 (nc g10) (fun _=>?_)
   refine A9 (nc g10) (fun _=>?_)
   refine d9 (M9 rfl rfl g10 rfl) ?_
   refine rM ?_
   refine A9 (nc rfl) (fun _=>?_)
   refine A9 (nc rfl) (fun _=>?_)
   refine A9 (nc rfl) (fun _=>?_)
   refine A9 (nc rfl) (fun _=>?_)
   refine A9 (nc rfl) (fun _=>?_)
   refine d9 (M9 rfl rfl rfl rfl) ?_
   refine rM ?_
   refine A9 (nc rfl) (fun _=>?_)
   refine A9 (nc rfl) (fun _=>?_)
   refine A9 (nc rfl) (fun _=>?_)
   refine A9 (nc rfl) (fun _=>?_)
   refine A9 (nc rfl) (fun _=>?_)
   refine A9 (nc rfl) (fun _=>?_)
   refine d9 (M9 rfl rfl rfl rfl) ?_
   refine c9 ?_
   refine j9 rfl (fun _=>?_) (nc rfl)
   refine t9<|rA<|c9 ?_
   refine tk Tryz.func3 (.tmp rfl .nil) ?_
   all_goals((exfalso;(try clear ys3);clear hod hoe xs3;grind))
end Go.Eng
