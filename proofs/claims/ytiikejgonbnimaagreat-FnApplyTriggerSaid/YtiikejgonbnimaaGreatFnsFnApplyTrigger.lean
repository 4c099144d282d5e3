/- What the functions that FnApplyTrigger reaches answer. -/
import Derived.Test.YtiikejgonbnimaaGreatFnsFnApplyTriggerp2
import Derived.Test.YtiikejgonbnimaaGreatEngZU
import Derived.Test.YtiikejgonbnimaaGreatChecked
set_option linter.unusedVariables false
set_option linter.unusedSimpArgs false
namespace Go.Eng
open Go Go.RowKit Go.Proofs
set_option maxHeartbeats 1000000
set_option maxRecDepth 10000
theorem N3 (ns vs:List Int)(rs:V9)(fs:p9)(hn:ns.length≤4611686018427387904)(hv:vs.length≤4611686018427387904)(on:∀x∈ns,s7 x)(ov:∀x∈vs,s7 x)(hrs:rs.length≤1048576)(hfs:l7 (fun(x:Int ×(List Int))=>x.2.length) fs≤1048576)(ho:∀z∈fs,∀x∈z.2,s7 x):Pu Tryz.prog 65 [.agg [.t none (.sl 1 f9 ns),.t none (.sl 1 f9 vs)],.agg [.t none (.sl 3 (d8 Z9 f9 a8) rs),.t none (.sl 2 (E9 f9 (B9 1 f9)) fs)]] [(3,some (.row none 76 true 3 (d8 Z9 f9 a8) (HV rs fs ns vs))),(4,some (.row none 57 true 2 (E9 f9 (B9 1 f9)) (LV rs fs ns vs)))] 5 (.tup [(true,[.own 3,.own 4]),(false,[.t none (.v (.bool (wZ rs fs ns vs)))])]):=by
 refine u6 Tryz.func65 fun w S=>?_
 have gl:=L8 (f:=(fun(x:Int ×(List Int))=>x.2.length)) (l:=fs)
 refine w9 ?_
 refine d9 (X9 0 rfl rfl rfl rfl) ?_
 refine d9 (X9 1 rfl rfl rfl rfl) ?_
 refine d9 (I9 2 (zs:=[.slice none 0 0,.slice none 0 0]) rfl rfl (by kernel_rfl) rfl) ?_
 refine rA<|c9<|k9<|w9 ?_
 refine rC 2 ?_
 refine d9 (n9 3 3 false (N9 Tryz.func110) (E4 ns vs (by omega) (by omega) (by omega) (by omega)) rfl (.cons rfl (.agg (.cons .t0 (.cons .t0 .nil))) .nil) rfl rfl rfl) ?_
 refine d9 (Q8 rfl rfl) ?_
 refine rM ?_
 refine x9 (fun g1=>?_) (fun g1=>?_)
 ·
  have g1':=(O4 g1)
  refine rC 2 ?_
  refine x9 (fun _=>?_) (C9 g1)
  refine d9 (n9 3 3 false (N9 Tryz.func12) (f7 rs fs (by omega) (by omega) (by omega)) rfl (.cons rfl (.agg (.cons .t0 (.cons .t0 .nil))) .nil) rfl rfl rfl) ?_
  refine x9 (fun _=>?_) (C9 g1)
  refine d9 (Q8 rfl rfl) ?_
  refine d9 (H9 rfl rfl g1 rfl) ?_
  refine c9 ?_
  refine j9 rfl (fun h2=>?_) (fun h2=>?_)
  ·
   have h2':=(P4 h2)
   refine w9 ?_
   refine d9 (oD [(0,1),(1,1)] [.slice none 0 0,.slice none 0 0]) ?_
   refine rS 2 ?_
   refine rA<|c9 ?_
   refine I6 3 (b:=2) (o:=0) (et:=76) (sz:=3) true (d8 Z9 f9 a8) rfl rfl rfl ?_
   refine I6 4 (b:=2) (o:=1) (et:=57) (sz:=2) true (E9 f9 (B9 1 f9)) rfl rfl rfl ?_
   refine tk Tryz.func65 (r8 2 (.tmp rfl .nil)) ?_ (hL:=⟨E7 ?_,⟨E7 ?_,trivial⟩⟩) <;>(try clear ih0)
   all_goals((have e8:=pO (rs:=rs) (fs:=fs) (ns:=ns) (vs:=vs) (by assumption);first | (rw [e8.1];done) | (rw [e8.2.1];done) | (rw [e8.2.2];rfl)))
  ·
   have h2':=(O4 h2)
   refine m9<|w9<|rC 2 ?_
   refine d9 (n9 3 7 false (N9 Tryz.func21) (Y7 rs fs (by omega) (by omega)) rfl (.cons rfl (.agg (.cons .t0 (.cons .t0 .nil))) .nil) rfl rfl rfl) ?_
   refine d9 (I9 7 (zs:=[.slice none 0 0,.slice none 0 0]) rfl rfl (by kernel_rfl) rfl) ?_
   refine rS 2<|c9<|k9<|w9 ?_
   refine rF 1 ?_
   refine rL ?_
   refine d9 (S9 rfl rfl rfl) ?_
   refine rM<|c9<|r9 ?_
   refine L9 (fun m=>⟨[(2,some (.c (.ptr 0 0))),(4,some (.c (.ptr 2 0))),(5,some (.c (.t none (.v (.bool false))))),(6,some (.c (.ptr 7 0))),(21,some (.c (.t none (.sl 2 (E9 f9 (B9 1 f9)) fs)))),(22,some (.c (.t none (.v (.int .i64 ((fs.length:Int))))))),(23,some (.c (.t none (.v (.int .i64 ((m:Int)))))))],[(0,some (.box [.t none (.sl 1 f9 ns),.t none (.sl 1 f9 vs)])),(1,some (.box [.t none (.sl 3 (d8 Z9 f9 a8) rs),.t none (.sl 2 (E9 f9 (B9 1 f9)) fs)])),(2,some (.box [.t none (.v (.slice none 0 0)),.t none (.v (.slice none 0 0))])),(5,some (.row none 76 true 3 (d8 Z9 f9 a8) rs)),(6,some (.row none 57 true 2 (E9 f9 (B9 1 f9)) ((fs.take m).map (LZ ns vs)++fs.drop m))),(7,some (.box [.own 5,.own 6]))],8⟩:Nat→St) (fun m=>m≤fs.length) (fun m=>fs.length - m) 0 ⟨⟨rfl,⟨rfl,⟨rfl,⟨rfl,⟨rfl,⟨rfl,⟨rfl,trivial⟩⟩⟩⟩⟩⟩⟩,⟨rfl,⟨rfl,⟨rfl,⟨rfl,⟨(E7 (by simp)),⟨rfl,trivial⟩⟩⟩⟩⟩⟩,rfl⟩ (by exact Nat.zero_le _) ?_
   rintro m hI ih0
   try dsimp only at hI ih0
   have i1:=hI
   refine w9<|rB<|c9<|k9 ?_
   refine j9 rfl (fun h3=>?_) (fun h3=>?_)
   ·
    have h3':=j8 h3
    refine m9<|k9<|r9<|w9<|rM ?_
    obtain⟨z4,hz5,b6⟩:=t9 (xs:=fs) (n:=(m:Int)) (by omega) (by omega)
    refine d9 (P9 rfl (by kernel_rfl) rfl rfl b6 hz5) ?_
    refine d9 (A6 rfl (n:=2) (by kernel_rfl) (by kernel_rfl) rfl rfl) ?_
    refine d9 (I9 8 (zs:=[.int .i64 0,.slice none 0 0]) rfl rfl (by kernel_rfl) rfl) ?_
    refine rA ?_
    refine rS 2<|c9 ?_
    refine tD (fun i=>!(Nat.beq i 7)) ?_
    refine dT 0 rfl (pF 1) ?_
    refine dT 1 rfl pL ?_
    refine dT 2 rfl pM ?_
    refine dT 3 rfl (pC 2) ?_
    refine dT 4 rfl (pC 2) ?_
    refine dO 5 rfl (n9 9 15 false (N9 Tryz.func111) (cW ns vs z4.1 z4.2 (by omega) (by omega) (by omega) (by omega) (by(have e1:=j6 (f:=(fun(x:Int ×(List Int))=>x.2.length)) (l:=fs) (m:=m) (by assumption);(try dsimp only at e1);omega)) (by exact ho _ (J8 (by assumption)))) rfl (.cons rfl (.agg (.cons .t0 (.cons .t0 .nil))) (.cons rfl (.agg (.cons .t0 (.cons .t0 .nil))) .nil)) rfl rfl rfl) ?_
    obtain⟨z7,hz8,b9⟩:=t9 (xs:=(fs.take m).map (LZ ns vs)++fs.drop m) (n:=(m:Int)) (by omega) (by(simp only [List.length_append,List.length_map,List.length_take,List.length_drop];omega))
    refine dT 6 rfl (T9 (by kernel_rfl) rfl rfl rfl b9 (f8 b9 hz8)) ?_
    refine dO 7 rfl (D8 ((z4.1,z4.2.map (W0 ns vs))) (n:=2) (by kernel_rfl) rfl rfl hz8 rfl rfl rfl rfl (.cons .sc (.take (.own rfl) rfl .nil)) rfl (fun j h1 h2=>by(simp at h1 h2;omega))) ?_
    refine dE ?_
    refine i9<|l9<|rB ?_
    refine rM<|c9 ?_
    refine n8 ?_ (ih0 (m + 1) (by(try dsimp only);omega) (by(try dsimp only);omega))
    exact⟨⟨rfl,⟨rfl,⟨rfl,⟨rfl,⟨rfl,⟨rfl,⟨(i6 (s8 (by omega) (by omega))),trivial⟩⟩⟩⟩⟩⟩⟩,⟨rfl,⟨rfl,⟨rfl,⟨rfl,⟨(E7 (GO (f:=LZ ns vs) hz5 rfl)),⟨rfl,trivial⟩⟩⟩⟩⟩⟩,rfl⟩
   ·
    have h3':=l8 h3
    refine R9 rfl<|w9<|rF 1 ?_
    refine rL ?_
    refine d9 (n9 8 9 false (N9 Tryz.func27) (cY ((fs.take m).map (LZ ns vs)++fs.drop m) (by(rw [List.take_of_length_le (by omega),List.drop_of_length_le (by omega),List.append_nil,qR];omega))) rfl (.cons rfl (.c (.own rfl)) .nil) rfl rfl rfl) ?_
    refine rF 1 ?_
    refine rS 1<|o7 ?_
    refine rC 2 ?_
    refine rS 2 ?_
    refine rA<|c9 ?_
    refine T7 3 5 rfl rfl rfl ?_
    refine T7 4 8 rfl rfl rfl ?_
    refine tk Tryz.func65 (r8 2 (.tmp rfl .nil)) ?_ (hL:=⟨E7 ?_,⟨E7 ?_,trivial⟩⟩) <;>(try clear ih0)
    all_goals((have e8:=VS (rs:=rs) (fs:=fs) (ns:=ns) (vs:=vs) (by assumption) (by assumption);first | (rw [e8.1];done) | (rw [e8.2.2];rfl) | (rw [e8.2.1,List.take_of_length_le (by omega),List.drop_of_length_le (by omega),List.append_nil];done)))
 ·
  have g1':=(P4 g1)
  refine x9 (nc g1) (fun _=>?_)
  refine x9 (nc g1) (fun _=>?_)
  refine d9 (M9 rfl rfl g1 rfl) ?_
  refine c9 ?_
  refine j9 rfl (fun _=>?_) (nc rfl)
  refine w9 ?_
  refine d9 (oD [(0,1),(1,1)] [.slice none 0 0,.slice none 0 0]) ?_
  refine rS 2 ?_
  refine rA<|c9 ?_
  refine I6 3 (b:=2) (o:=0) (et:=76) (sz:=3) true (d8 Z9 f9 a8) rfl rfl rfl ?_
  refine I6 4 (b:=2) (o:=1) (et:=57) (sz:=2) true (E9 f9 (B9 1 f9)) rfl rfl rfl ?_
  refine tk Tryz.func65 (r8 2 (.tmp rfl .nil)) ?_ (hL:=⟨E7 ?_,⟨E7 ?_,trivial⟩⟩) <;>(try clear ih0)
  all_goals((have e8:=nO (rs:=rs) (fs:=fs) (ns:=ns) (vs:=vs) (by assumption);first | (rw [e8.1];done) | (rw [e8.2.1];done) | (rw [e8.2.2];rfl)))
theorem rT (rs:V9)(fs:p9)(a b:Int)(hrs:rs.length≤1048576)(hfs:l7 (fun(x:Int ×(List Int))=>x.2.length) fs≤1048576)(ho:∀z∈fs,∀x∈z.2,s7 x)(oa:s7 a)(ob:s7 b):Pu Tryz.prog 22 [.agg [.t none (.sl 3 (d8 Z9 f9 a8) rs),.t none (.sl 2 (E9 f9 (B9 1 f9)) fs)],.c (.t none (.v (.int .i64 a))),.c (.t none (.v (.int .i64 b)))] [(2,some (.row none 76 true 3 (d8 Z9 f9 a8) (iV rs fs a b))),(3,some (.row none 57 true 2 (E9 f9 (B9 1 f9)) (sW rs fs a b)))] 4 (.tup [(true,[.own 2,.own 3]),(false,[.t none (.v (.int .i64 (PV a b)))])]):=by
 refine u6 Tryz.func22 fun w S=>?_
 have oa1:=oa.1;have oa2:=oa.2;have ob1:=ob.1;have ob2:=ob.2
 refine w9 ?_
 refine d9 (X9 0 rfl rfl rfl rfl) ?_
 refine d9 (I9 1 (zs:=[.slice none 0 0,.slice none 0 0]) rfl rfl (by kernel_rfl) rfl) ?_
 refine rA<|c9<|k9<|w9 ?_
 refine rM ?_
 refine d9 (n9 2 2 false (N9 Tryz.func63) (BX a) rfl (.cons rfl (.c .t0) .nil) rfl rfl rfl) ?_
 refine d9 (Q8 rfl rfl) ?_
 refine rM ?_
 refine x9 (fun g1=>?_) (fun g1=>?_)
 ·
  have g1':=l8 (P4 g1)
  refine rM ?_
  refine x9 (fun _=>?_) (nc g1)
  refine d9 (n9 2 2 false (N9 Tryz.func63) (BX b) rfl (.cons rfl (.c .t0) .nil) rfl rfl rfl) ?_
  refine x9 (fun _=>?_) (nc g1)
  refine d9 (Q8 rfl rfl) ?_
  refine d9 (M9 rfl rfl g1 rfl) ?_
  refine c9 ?_
  refine j9 rfl (fun h2=>?_) (fun h2=>?_)
  ·
   have h2':=l8 (P4 h2)
   refine w9<|rC 2 ?_
   refine d9 (n9 2 6 false (N9 Tryz.func21) (Y7 rs fs (by omega) (by omega)) rfl (.cons rfl (.agg (.cons .t0 (.cons .t0 .nil))) .nil) rfl rfl rfl) ?_
   refine rS 2 ?_
   refine rA<|c9 ?_
   refine T7 2 4 rfl rfl rfl ?_
   refine T7 3 5 rfl rfl rfl ?_
   refine tk Tryz.func22 (r8 2 (.tmp rfl .nil)) ?_ (hL:=⟨E7 ?_,⟨E7 ?_,trivial⟩⟩)
   all_goals((have e8:=bJ (rs:=rs) (fs:=fs) (a:=a) (b:=b) (by omega) (by omega);first | (rw [e8.1];done) | (rw [e8.2.1];done) | (rw [e8.2.2];rfl)))
  ·
   have h2':=j8 (O4 h2)
   refine m9<|w9<|rM ?_
   refine rM ?_
   refine d9 (rN rfl rfl rfl) ?_
   refine d9 (n9 2 2 false (N9 Tryz.func64) (f5 (if b < a then b else a) (by omega) (by omega)) rfl (.cons rfl (.c .t0) .nil) rfl rfl rfl) ?_
   refine rM ?_
   refine d9 (O9 rfl rfl rfl rfl) ?_
   refine d9 (O9 rfl rfl rfl rfl) ?_
   refine rA ?_
   refine rA<|o7 ?_
   refine rM ?_
   refine d9 (N4 2 (e:=3) (sz:=1) (zs:=[.int .i64 0]) (enc:=f9) (if -40≤(if b < a then b else a)∧(if b < a then b else a)≤ -1 then -1 - (if b < a then b else a) else 0) rfl rfl (by kernel_rfl) rfl rfl rfl rfl rfl rfl (.cons .sc .nil)) ?_
   refine rM ?_
   refine rM ?_
   refine d9 (hN rfl rfl rfl) ?_
   refine d9 (N4 3 (e:=3) (sz:=1) (zs:=[.int .i64 0]) (enc:=f9) (if a < b then b else a) rfl rfl (by kernel_rfl) rfl rfl rfl rfl rfl rfl (.cons .sc .nil)) ?_
   refine d9 (oD [(0,1),(1,1)] [.slice none 0 0,.slice none 0 0]) ?_
   refine rC 2 ?_
   refine d9 (n9 4 9 false (N9 Tryz.func65) (N3 ([if -40≤(if b < a then b else a)∧(if b < a then b else a)≤ -1 then -1 - (if b < a then b else a) else 0]) ([if a < b then b else a]) rs fs (by(simp only [List.length_cons,List.length_nil];omega)) (by(simp only [List.length_cons,List.length_nil];omega)) (by(intro x hx;simp only [List.mem_cons,List.not_mem_nil,or_false] at hx;subst hx;unfold s7;omega)) (by(intro x hx;simp only [List.mem_cons,List.not_mem_nil,or_false] at hx;subst hx;unfold s7;omega)) (by omega) (by omega) (by omega)) rfl (.cons rfl (.agg (.cons (.own rfl) (.cons (.own rfl) .nil))) (.cons rfl (.agg (.cons .t0 (.cons .t0 .nil))) .nil)) rfl rfl rfl) ?_
   refine rM ?_
   refine d9 (O9 rfl rfl rfl rfl) ?_
   refine d9 (O9 rfl rfl rfl rfl) ?_
   refine d9 (I9 9 (zs:=[.slice none 0 0,.slice none 0 0]) rfl rfl (by kernel_rfl) rfl) ?_
   refine rS 2 ?_
   refine rA<|o7 ?_
   refine rC 2 ?_
   refine rS 2 ?_
   refine rA<|c9 ?_
   refine T7 2 7 rfl rfl rfl ?_
   refine T7 3 8 rfl rfl rfl ?_
   refine tk Tryz.func22 (r8 2 (.tmp rfl .nil)) ?_ (hL:=⟨E7 ?_,⟨E7 ?_,trivial⟩⟩)
   all_goals((have e8:=bU (rs:=rs) (fs:=fs) (a:=a) (b:=b) (by omega);first | (rw [e8.1];rfl) | (rw [e8.2.1];rfl) | (rw [e8.2.2];rfl)))
 ·
  have g1':=j8 (O4 g1)
  refine x9 (C9 g1) (fun _=>?_)
  refine x9 (C9 g1) (fun _=>?_)
  refine d9 (H9 rfl rfl g1 rfl) ?_
  refine c9 ?_
  refine j9 rfl (C9 rfl) (fun _=>?_)
  refine m9<|w9<|rM ?_
  refine rM ?_
  refine d9 (rN rfl rfl rfl) ?_
  refine d9 (n9 2 2 false (N9 Tryz.func64) (f5 (if b < a then b else a) (by omega) (by omega)) rfl (.cons rfl (.c .t0) .nil) rfl rfl rfl) ?_
  refine rM ?_
  refine d9 (O9 rfl rfl rfl rfl) ?_
  refine d9 (O9 rfl rfl rfl rfl) ?_
  refine rA ?_
  refine rA<|o7 ?_
  refine rM ?_
  refine d9 (N4 2 (e:=3) (sz:=1) (zs:=[.int .i64 0]) (enc:=f9) (if -40≤(if b < a then b else a)∧(if b < a then b else a)≤ -1 then -1 - (if b < a then b else a) else 0) rfl rfl (by kernel_rfl) rfl rfl rfl rfl rfl rfl (.cons .sc .nil)) ?_
  refine rM ?_
  refine rM ?_
  refine d9 (hN rfl rfl rfl) ?_
  refine d9 (N4 3 (e:=3) (sz:=1) (zs:=[.int .i64 0]) (enc:=f9) (if a < b then b else a) rfl rfl (by kernel_rfl) rfl rfl rfl rfl rfl rfl (.cons .sc .nil)) ?_
  refine d9 (oD [(0,1),(1,1)] [.slice none 0 0,.slice none 0 0]) ?_
  refine rC 2 ?_
  refine d9 (n9 4 9 false (N9 Tryz.func65) (N3 ([if -40≤(if b < a then b else a)∧(if b < a then b else a)≤ -1 then -1 - (if b < a then b else a) else 0]) ([if a < b then b else a]) rs fs (by(simp only [List.length_cons,List.length_nil];omega)) (by(simp only [List.length_cons,List.length_nil];omega)) (by(intro x hx;simp only [List.mem_cons,List.not_mem_nil,or_false] at hx;subst hx;unfold s7;omega)) (by(intro x hx;simp only [List.mem_cons,List.not_mem_nil,or_false] at hx;subst hx;unfold s7;omega)) (by omega) (by omega) (by omega)) rfl (.cons rfl (.agg (.cons (.own rfl) (.cons (.own rfl) .nil))) (.cons rfl (.agg (.cons .t0 (.cons .t0 .nil))) .nil)) rfl rfl rfl) ?_
  refine rM ?_
  refine d9 (O9 rfl rfl rfl rfl) ?_
  refine d9 (O9 rfl rfl rfl rfl) ?_
  refine d9 (I9 9 (zs:=[.slice none 0 0,.slice none 0 0]) rfl rfl (by kernel_rfl) rfl) ?_
  refine rS 2 ?_
  refine rA<|o7 ?_
  refine rC 2 ?_
  refine rS 2 ?_
  refine rA<|c9 ?_
  refine T7 2 7 rfl rfl rfl ?_
  refine T7 3 8 rfl rfl rfl ?_
  refine tk Tryz.func22 (r8 2 (.tmp rfl .nil)) ?_ (hL:=⟨E7 ?_,⟨E7 ?_,trivial⟩⟩)
  all_goals((have e8:=bU (rs:=rs) (fs:=fs) (a:=a) (b:=b) (by omega);first | (rw [e8.1];rfl) | (rw [e8.2.1];rfl) | (rw [e8.2.2];rfl)))
theorem V7 (rs:V9)(l:p9)(hl:l7 (fun(x:Int ×(List Int))=>x.2.length) l≤1048576)(ho:∀z∈l,∀x∈z.2,s7 x):Pu Tryz.prog 10 [.agg [.t none (.sl 3 (d8 Z9 f9 a8) rs),.t none (.sl 2 (E9 f9 (B9 1 f9)) l)]] [(2,some (.row none 3 true 1 f9 (G9 (m8 (U9 l)))))] 3 (.c (.own 2)):=by
 refine u6 Tryz.func10 fun w S=>?_
 have gl:=L8 (f:=(fun(x:Int ×(List Int))=>x.2.length)) (l:=l);have gv:=KZ l
 refine w9 ?_
 refine d9 (X9 0 rfl rfl rfl rfl) ?_
 refine rA<|o7 ?_
 refine d9 (C7 1 (e:=3) (sz:=1) (zs:=[.int .i64 0]) f9 rfl rfl (by kernel_rfl) rfl) ?_
 refine rA<|c9<|k9<|w9 ?_
 refine rF 1 ?_
 refine rL ?_
 refine d9 (S9 rfl rfl rfl) ?_
 refine rM<|c9<|r9 ?_
 refine L9 (fun m=>⟨[(2,some (.c (.t none (.v (.slice none 0 0))))),(3,some (.c (.own 1))),(8,some (.c (.t none (.sl 2 (E9 f9 (B9 1 f9)) l)))),(9,some (.c (.t none (.v (.int .i64 ((l.length:Int))))))),(10,some (.c (.t none (.v (.int .i64 ((m:Int)))))))],[(0,some (.box [.t none (.sl 3 (d8 Z9 f9 a8) rs),.t none (.sl 2 (E9 f9 (B9 1 f9)) l)])),(1,some (.row none 3 true 1 f9 (U9 (l.take m))))],2⟩:Nat→St) (fun m=>m≤l.length) (fun m=>l.length - m) 0 ⟨⟨rfl,⟨rfl,⟨rfl,⟨rfl,⟨rfl,trivial⟩⟩⟩⟩⟩,⟨rfl,⟨rfl,trivial⟩⟩,rfl⟩ (by exact Nat.zero_le _) ?_
 rintro m hI ih0
 try dsimp only at hI ih0
 have i1:=hI
 refine w9<|rB<|c9<|k9 ?_
 refine j9 rfl (fun h1=>?_) (fun h1=>?_)
 ·
  have h1':=j8 h1
  refine m9<|k9<|r9<|w9 ?_
  obtain⟨z2,hz3,b4⟩:=t9 (xs:=l) (n:=(m:Int)) (by omega) (by omega)
  refine d9 (P9 rfl (by kernel_rfl) rfl rfl b4 hz3) ?_
  refine d9 (A6 rfl (n:=2) (by kernel_rfl) (by kernel_rfl) rfl rfl) ?_
  refine d9 (I9 2 (zs:=[.int .i64 0,.slice none 0 0]) rfl rfl (by kernel_rfl) rfl) ?_
  refine rS 2<|dJ ?_
  refine rM ?_
  refine rF 1 ?_
  refine rL ?_
  refine d9 (a7 1 (e:=3) (sz:=1) (by':=8) rfl (by kernel_rfl) rfl rfl rfl rfl (fun _ _=>⟨_,rfl⟩) (by(have e1:=aW (l:=l) (m:=m) (by assumption);omega)) (by(have e1:=aW (l:=l) (m:=m) (by assumption);omega))) ?_
  refine rA<|c9<|i9<|l9 ?_
  refine rB ?_
  refine rM<|c9 ?_
  refine n8 ?_ (ih0 (m + 1) (by(try dsimp only);omega) (by(try dsimp only);omega))
  exact⟨⟨rfl,⟨rfl,⟨rfl,⟨rfl,⟨(i6 (s8 (by omega) (by omega))),trivial⟩⟩⟩⟩⟩,⟨rfl,⟨(E7 (by rw [JX (m:=m) hz3])),trivial⟩⟩,rfl⟩
 ·
  have h1':=l8 h1
  refine R9 rfl<|w9<|rM ?_
  refine d9 (n9 2 3 false (N9 Tryz.func40) (wY (U9 (l.take m)) (by(rw [oX (by omega)];omega)) (by(rw [oX (by omega)];(exact kL ho)))) rfl (.cons rfl (.c (.own rfl)) .nil) rfl rfl rfl) ?_
  refine rA<|c9 ?_
  refine tk Tryz.func10 (.tmp rfl .nil) ?_ (hL:=⟨E7 ?_,trivial⟩) <;>(try clear ih0)
  all_goals first | rfl | ((rw [oX (by omega)]))
theorem QV (rs:V9)(l:p9)(hl:l7 (fun(x:Int ×(List Int))=>x.2.length) l≤1048576)(ho:∀z∈l,∀x∈z.2,s7 x):Pu Tryz.prog 24 [.agg [.t none (.sl 3 (d8 Z9 f9 a8) rs),.t none (.sl 2 (E9 f9 (B9 1 f9)) l)]] [] 0 (.c (.t none (.v (.int .i64 (W6 (G9 (m8 (U9 l)))))))):=by
 refine u6 Tryz.func24 fun w S=>?_
 have gl:=L8 (f:=(fun(x:Int ×(List Int))=>x.2.length)) (l:=l);have gv:=KZ l;have q1:=F7 (m8 (U9 l));have q2:=EY (U9 l)
 refine w9 ?_
 refine d9 (X9 0 rfl rfl rfl rfl) ?_
 refine rA<|o7 ?_
 refine rC 2 ?_
 refine d9 (n9 1 4 false (N9 Tryz.func10) (V7 rs l (by omega) (by omega)) rfl (.cons rfl (.agg (.cons .t0 (.cons .t0 .nil))) .nil) rfl rfl rfl) ?_
 refine rA<|c9<|k9<|w9 ?_
 refine rM ?_
 refine d9 (M7 rfl rfl rfl rfl) ?_
 refine rB<|c9 ?_
 refine j9 rfl (fun h1=>?_) (fun h1=>?_)
 ·
  have h1':=j8 h1
  refine w9<|rA<|c9 ?_
  refine tk Tryz.func24 (.tmp rfl .nil) ?_
  all_goals(refine qX ?_;(rw [qU (by omega)];done))
 ·
  have h1':=l8 h1
  refine m9<|w9<|rM ?_
  refine rM ?_
  refine d9 (M7 rfl rfl rfl rfl) ?_
  refine rB ?_
  obtain⟨z2,hz3,b4⟩:=t9 (xs:=G9 (m8 (U9 l))) (n:=IntKind.i64.wrap (((G9 (m8 (U9 l))).length:Int) - 1)) (by(simp only [IntKind.wrap_i64];omega)) (by(simp only [IntKind.wrap_i64];omega))
  refine d9 (t8 rfl (by kernel_rfl) rfl rfl rfl b4 (f8 b4 hz3)) ?_
  refine d9 (p8 rfl (by kernel_rfl) rfl rfl rfl hz3) ?_
  refine rB ?_
  refine rA<|c9 ?_
  refine tk Tryz.func24 (.tmp rfl .nil) ?_
  all_goals(refine qX ?_;(rw [MQ (by assumption) (by simp only [IntKind.wrap_i64];omega)];done))
theorem QY (a0:List (Int ×(List Int)))(a1:List (Int ×(List Int)))(a2:Bool)(a3:Int)(a4:Int)(q:Bool)(hs:l7 (fun(x:Int ×(List Int))=>x.2.length) a0 + l7 (fun(x:Int ×(List Int))=>x.2.length) a1≤1048576):Pu Tryz.prog 51 [.agg [.t none (.sl 2 (E9 f9 (B9 1 f9)) a0),.t none (.sl 2 (E9 f9 (B9 1 f9)) a1),.t none (.v (.bool a2)),.t none (.v (.int .i64 a3)),.t none (.v (.int .i64 a4))],.c (.t none (.v (.bool q)))] [(2,some (.row none 3 true 1 f9 (Y5 q (G9 (F9 a0)) (G9 (F9 a1)))))] 4 (.c (.own 2)):=by
 refine u6 Tryz.func51 fun w S=>?_
 have g0:=L8 (f:=(fun(x:Int ×(List Int))=>x.2.length)) (l:=a0);have g1:=L8 (f:=(fun(x:Int ×(List Int))=>x.2.length)) (l:=a1);have v0:=F7 (F9 a0);have v1:=H7 a0;have v2:=F7 (F9 a1);have v3:=H7 a1
 refine w9 ?_
 refine d9 (X9 0 rfl rfl rfl rfl) ?_
 refine rA<|o7 ?_
 refine rF 0 ?_
 refine rL ?_
 refine d9 (n9 1 2 false (N9 Tryz.func97) (F4 a0 (by omega)) rfl (.cons rfl (.c .t0) .nil) rfl rfl rfl) ?_
 refine d9 (C7 2 (e:=3) (sz:=1) (zs:=[.int .i64 0]) f9 rfl rfl (by kernel_rfl) rfl) ?_
 refine rA ?_
 refine rA<|c9<|k9<|w9 ?_
 refine rF 1 ?_
 refine rL ?_
 refine d9 (n9 3 4 false (N9 Tryz.func97) (F4 a1 (by omega)) rfl (.cons rfl (.c .t0) .nil) rfl rfl rfl) ?_
 refine d9 (M7 rfl rfl rfl rfl) ?_
 refine rM<|c9<|r9 ?_
 refine L9 (fun m=>⟨[(1,some (.c (.t none (.v (.bool q))))),(4,some (.c (.t none (.v (.slice none 0 0))))),(5,some (.c (.own 1))),(6,some (.c (.own 2))),(15,some (.c (.own 3))),(16,some (.c (.t none (.v (.int .i64 (((G9 (F9 a1)).length:Int))))))),(17,some (.c (.t none (.v (.int .i64 ((m:Int)))))))],[(0,some (.box [.t none (.sl 2 (E9 f9 (B9 1 f9)) a0),.t none (.sl 2 (E9 f9 (B9 1 f9)) a1),.t none (.v (.bool a2)),.t none (.v (.int .i64 a3)),.t none (.v (.int .i64 a4))])),(1,some (.row none 3 true 1 f9 (G9 (F9 a0)))),(2,some (.row none 3 true 1 f9 (((G9 (F9 a1)).take m).filter (fun x=>kZ (G9 (F9 a0)) x == q)))),(3,some (.row none 3 true 1 f9 (G9 (F9 a1))))],4⟩:Nat→St) (fun m=>m≤(G9 (F9 a1)).length) (fun m=>(G9 (F9 a1)).length - m) 0 ⟨⟨rfl,⟨rfl,⟨rfl,⟨rfl,⟨rfl,⟨rfl,⟨rfl,trivial⟩⟩⟩⟩⟩⟩⟩,⟨rfl,⟨rfl,⟨rfl,⟨rfl,trivial⟩⟩⟩⟩,rfl⟩ (by exact Nat.zero_le _) ?_
 rintro m hI ih0
 try dsimp only at hI ih0
 have i1:=hI;have fl:=bP (p:=(fun x=>kZ (G9 (F9 a0)) x == q)) (l:=G9 (F9 a1)) (m:=m)
 refine w9<|rB<|c9<|k9 ?_
 refine j9 rfl (fun h1=>?_) (fun h1=>?_)
 ·
  have h1':=j8 h1
  refine m9<|k9<|r9<|w9 ?_
  obtain⟨z2,hz3,b4⟩:=t9 (xs:=G9 (F9 a1)) (n:=(m:Int)) (by omega) (by omega)
  refine d9 (t8 rfl (by kernel_rfl) rfl rfl rfl b4 (f8 b4 hz3)) ?_
  refine d9 (p8 rfl (by kernel_rfl) rfl rfl rfl hz3) ?_
  refine rA<|o7 ?_
  refine rM ?_
  refine rM ?_
  refine d9 (n9 4 4 false (N9 Tryz.func98) (P7 (G9 (F9 a0)) z2 (by omega)) rfl (.cons rfl (.c (.own rfl)) (.cons rfl (.c .t0) .nil)) rfl rfl rfl) ?_
  refine rM ?_
  refine d9 (JI rfl Tryz.underlying4 rfl rfl) ?_
  refine c9 ?_
  refine j9 rfl (fun h5=>?_) (fun h5=>?_)
  ·
   have h5':=h5
   refine l9<|rM ?_
   refine rM ?_
   refine d9 (G8 4 (e:=3) (sz:=1) (zs:=[.int .i64 0]) rfl rfl (by kernel_rfl) rfl rfl rfl rfl rfl) ?_
   refine d9 (i8 2 (e:=3) (sz:=1) (by':=8) z2 rfl (by kernel_rfl) rfl rfl rfl rfl rfl rfl (.cons .sc .nil) rfl (by omega) (by omega)) ?_
   refine rA<|c9<|i9<|l9 ?_
   refine rB ?_
   refine rM<|c9 ?_
   refine n8 ?_ (ih0 (m + 1) (by(try dsimp only);omega) (by(try dsimp only);omega))
   exact⟨⟨rfl,⟨rfl,⟨rfl,⟨rfl,⟨rfl,⟨rfl,⟨(i6 (s8 (by omega) (by omega))),trivial⟩⟩⟩⟩⟩⟩⟩,⟨rfl,⟨rfl,⟨(E7 (by(rw [TW (by assumption) (by simp_all)];done))),⟨rfl,trivial⟩⟩⟩⟩,rfl⟩
  ·
   have h5':=h5
   refine m9<|i9<|l9<|rB ?_
   refine rM<|c9 ?_
   refine n8 ?_ (ih0 (m + 1) (by(try dsimp only);omega) (by(try dsimp only);omega))
   exact⟨⟨rfl,⟨rfl,⟨rfl,⟨rfl,⟨rfl,⟨rfl,⟨(i6 (s8 (by omega) (by omega))),trivial⟩⟩⟩⟩⟩⟩⟩,⟨rfl,⟨rfl,⟨(E7 (by(rw [oV (by assumption) (by simp_all)];done))),⟨rfl,trivial⟩⟩⟩⟩,rfl⟩
 ·
  have h1':=l8 h1
  refine R9 rfl<|w9<|rM ?_
  refine rA<|c9 ?_
  refine tk Tryz.func51 (.tmp rfl .nil) ?_ (hL:=⟨E7 ?_,trivial⟩) <;>(try clear ih0)
  all_goals first | rfl | ((rw [AQ (by omega)];rfl))
theorem w4 (a0:List (Int ×(List Int)))(a1:List (Int ×(List Int)))(a2:Bool)(a3:Int)(a4:Int)(hs:l7 (fun(x:Int ×(List Int))=>x.2.length) a0 + l7 (fun(x:Int ×(List Int))=>x.2.length) a1≤1048576):Pu Tryz.prog 15 [.agg [.t none (.sl 2 (E9 f9 (B9 1 f9)) a0),.t none (.sl 2 (E9 f9 (B9 1 f9)) a1),.t none (.v (.bool a2)),.t none (.v (.int .i64 a3)),.t none (.v (.int .i64 a4))]] [(3,some (.row none 3 true 1 f9 (Y5 false (G9 (F9 a0)) (G9 (F9 a1)))))] 5 (.c (.own 3)):=by
 refine u6 Tryz.func15 fun w S=>?_
 have g0:=L8 (f:=(fun(x:Int ×(List Int))=>x.2.length)) (l:=a0);have g1:=L8 (f:=(fun(x:Int ×(List Int))=>x.2.length)) (l:=a1);have v0:=F7 (F9 a0);have v1:=H7 a0;have v2:=F7 (F9 a1);have v3:=H7 a1
 refine w9 ?_
 refine d9 (X9 0 rfl rfl rfl rfl) ?_
 refine rA<|o7 ?_
 refine rC 5 ?_
 refine d9 (n9 1 5 false (N9 Tryz.func51) (QY a0 a1 a2 a3 a4 false (by omega)) rfl (.cons rfl (.agg (.cons .t0 (.cons .t0 (.cons .t0 (.cons .t0 (.cons .t0 .nil)))))) (.cons rfl (.c .t0) .nil)) rfl rfl rfl) ?_
 refine rA<|c9 ?_
 refine tk Tryz.func15 (.tmp rfl .nil) ?_ (hL:=⟨E7 ?_,trivial⟩)
 all_goals rfl
theorem RW (k:Int)(hk: -4611686018427387904≤k∧k≤4611686018427387904):Pu Tryz.prog 25 [.c (.t none (.v (.int .i64 k)))] [] 0 (.c (.t none (.v (.int .i64 (-1 - k))))):=by
 refine u6 Tryz.func25 fun w S=>?_
 refine w9<|rA<|o7 ?_
 refine rM ?_
 refine rB ?_
 refine rA<|c9 ?_
 refine tk Tryz.func25 (.tmp rfl .nil) ?_
 all_goals(refine qX ?_;exact s8 (by omega) (by omega))
theorem uX (rs:V9)(fs:p9)(a0:List (Int ×(List Int)))(a1:List (Int ×(List Int)))(a2:Bool)(a3:Int)(a4:Int)(b:List Int)(hrs:rs.length≤1048576)(hsz:l7 (fun(x:Int ×(List Int))=>x.2.length) fs +(l7 (fun(x:Int ×(List Int))=>x.2.length) a0 + l7 (fun(x:Int ×(List Int))=>x.2.length) a1)≤1048576)(ho:∀z∈fs,∀x∈z.2,s7 x)(hoa:∀z∈a0,∀x∈z.2,s7 x)(hoh:∀z∈a1,∀x∈z.2,s7 x)(hbl:b.length≤1048576)(hob:∀x∈b,s7 x):Pu Tryz.prog 6 [.agg [.t none (.sl 3 (d8 Z9 f9 a8) rs),.t none (.sl 2 (E9 f9 (B9 1 f9)) fs)],.agg [.t none (.sl 2 (E9 f9 (B9 1 f9)) a0),.t none (.sl 2 (E9 f9 (B9 1 f9)) a1),.t none (.v (.bool a2)),.t none (.v (.int .i64 a3)),.t none (.v (.int .i64 a4))],.c (.t none (.sl 1 f9 b))] [(4,some (.row none 76 true 3 (d8 Z9 f9 a8) (M4 rs fs a0 a1 a2 a3 a4 b))),(5,some (.row none 57 true 2 (E9 f9 (B9 1 f9)) (E5 rs fs a0 a1 a2 a3 a4 b)))] 6 (.tup [(true,[.own 4,.own 5]),(false,[.t none (.v (.int .i64 (P0 rs fs a0 a1 a2 a3 a4 b)))])]):=by
 refine u6 Tryz.func6 fun w S=>?_
 have g0:=L8 (f:=(fun(x:Int ×(List Int))=>x.2.length)) (l:=a0);have g1:=L8 (f:=(fun(x:Int ×(List Int))=>x.2.length)) (l:=a1);have g2:=L8 (f:=(fun(x:Int ×(List Int))=>x.2.length)) (l:=fs);have v1:=xQ false (G9 (F9 a0)) (G9 (F9 a1));have v2:=F7 (F9 a1);have v3:=H7 a1;have nb:0≤W6 (G9 (m8 (U9 fs)))∧W6 (G9 (m8 (U9 fs)))≤40:=WS fs;have X5:R8 rs fs a0 a1 a2 a3 a4 b=true→a2=false→(Y5 false (G9 (F9 a0)) (G9 (F9 a1))).length≤5:=aN;have XR:R8 rs fs a0 a1 a2 a3 a4 b=true→a2=false→∀(k:Nat) x,(Y5 false (G9 (F9 a0)) (G9 (F9 a1)))[k]? =some x→0≤x∧x < 5:=(fun h h2 k x hx=>sX h h2 (J8 hx));have XL:R8 rs fs a0 a1 a2 a3 a4 b=true→b.length=5:=(fun h=>(zY (Z7 h)).2.2);have oW:∀x∈w3 fs a0 a1 b,s7 x:=ZU _ _ _ hob nb.1 (by(have e7:(tW a0 a1).length=(Y5 false (G9 (F9 a0)) (G9 (F9 a1))).length:=rfl);have e8:GT fs≤40:=nb.2;omega)
 refine w9 ?_
 refine d9 (X9 0 rfl rfl rfl rfl) ?_
 refine d9 (X9 1 rfl rfl rfl rfl) ?_
 refine d9 (I9 2 (zs:=[.slice none 0 0,.slice none 0 0]) rfl rfl (by kernel_rfl) rfl) ?_
 refine rA<|o7 ?_
 refine rC 5 ?_
 refine d9 (I9 3 (zs:=[.slice none 0 0,.slice none 0 0,.bool false,.int .i64 0,.int .i64 0]) rfl rfl (by kernel_rfl) rfl) ?_
 refine rS 5<|c9<|k9<|w9 ?_
 refine rC 2 ?_
 refine rC 5 ?_
 refine rM ?_
 refine d9 (n9 4 4 false (N9 Tryz.func14) (Q3 rs fs a0 a1 a2 a3 a4 b (by omega) (by omega) (by omega) (by omega) (by omega) (by omega) (by omega)) rfl (.cons rfl (.agg (.cons .t0 (.cons .t0 .nil))) (.cons rfl (.agg (.cons .t0 (.cons .t0 (.cons .t0 (.cons .t0 (.cons .t0 .nil)))))) (.cons rfl (.c .t0) .nil))) rfl rfl rfl) ?_
 refine d9 (Q8 rfl rfl) ?_
 refine c9 ?_
 refine j9 rfl (fun h1=>?_) (fun h1=>?_)
 ·
  have h1':=(P4 h1)
  refine w9<|rC 2 ?_
  refine d9 (n9 4 8 false (N9 Tryz.func21) (Y7 rs fs (by omega) (by omega)) rfl (.cons rfl (.agg (.cons .t0 (.cons .t0 .nil))) .nil) rfl rfl rfl) ?_
  refine rS 2 ?_
  refine rA<|c9 ?_
  refine T7 4 6 rfl rfl rfl ?_
  refine T7 5 7 rfl rfl rfl ?_
  refine tk Tryz.func6 (r8 2 (.tmp rfl .nil)) ?_ (hL:=⟨E7 ?_,⟨E7 ?_,trivial⟩⟩) <;>(try clear ih0) <;>(try clear ih1)
  all_goals((have e8:=gN (rs:=rs) (fs:=fs) (a0:=a0) (a1:=a1) (a2:=a2) (a3:=a3) (a4:=a4) (v:=b) (by assumption);first | (rw [e8.1];done) | (rw [e8.2.1];done) | (rw [e8.2.2];rfl)))
 ·
  have h1':=(O4 h1)
  refine m9<|k9<|w9<|rF 2 ?_
  refine rL<|c9 ?_
  refine j9 rfl (fun h2=>?_) (fun h2=>?_)
  ·
   have h2':=h2
   refine k9 ?_
   refine tD (fun i=>!(Nat.beq i 14)) ?_
   refine dT 0 rfl (pC 2) ?_
   refine dT 1 rfl pM ?_
   refine dT 2 rfl (pF 3) ?_
   refine dT 3 rfl pL ?_
   obtain⟨z3,hz4,b5⟩:=t9 (xs:=b) (n:=a3) (by exact(B5 (Z7 (by assumption)) (by assumption)).1.1) (by exact(B5 (Z7 (by assumption)) (by assumption)).1.2)
   refine dT 4 rfl (w8 (by kernel_rfl) rfl rfl b5 hz4) ?_
   refine dT 5 rfl (t7 (by kernel_rfl) rfl rfl) ?_
   refine dT 6 rfl pM ?_
   refine dT 7 rfl (pF 4) ?_
   refine dT 8 rfl pL ?_
   obtain⟨z6,hz7,b8⟩:=t9 (xs:=b) (n:=a4) (by exact(B5 (Z7 (by assumption)) (by assumption)).2.1) (by exact(B5 (Z7 (by assumption)) (by assumption)).2.2)
   refine dT 9 rfl (w8 (by kernel_rfl) rfl rfl b8 hz7) ?_
   refine dT 10 rfl (t7 (by kernel_rfl) rfl rfl) ?_
   refine dO 11 rfl (n9 4 8 false (N9 Tryz.func22) (rT rs fs z3 z6 (by omega) (by omega) (by omega) (by exact hob _ (J8 (by assumption))) (by exact hob _ (J8 (by assumption)))) rfl (.cons rfl (.agg (.cons .t0 (.cons .t0 .nil))) (.cons rfl (.c .t0) (.cons rfl (.c .t0) .nil))) rfl rfl rfl) ?_
   refine dT 12 rfl (G4 rfl rfl rfl) ?_
   refine dT 13 rfl (G4 rfl rfl rfl) ?_
   refine dO 14 rfl (oS 2) ?_
   refine dT 15 rfl pA ?_
   refine dE ?_
   refine T7 4 6 rfl rfl rfl ?_
   refine T7 5 7 rfl rfl rfl ?_
   refine tk Tryz.func6 (r8 2 (.tmp rfl .nil)) ?_ (hL:=⟨E7 ?_,⟨E7 ?_,trivial⟩⟩) <;>(try clear ih0) <;>(try clear ih1)
   all_goals((have e8:=mR (rs:=rs) (fs:=fs) (a0:=a0) (a1:=a1) (a2:=a2) (a3:=a3) (a4:=a4) (v:=b) (by assumption) (by assumption) hz4 hz7;first | (rw [e8.1];done) | (rw [e8.2.1];done) | (rw [e8.2.2];rfl)))
  ·
   have h2':=h2
   refine m9<|k9 ?_
   refine tY ?_
   refine dT 0 rfl pM ?_
   refine dT 2 rfl (pC 2) ?_
   refine dO 1 rfl (n9 4 5 false (N9 Tryz.func23) (a6 b (by omega)) rfl (.cons rfl (.c .t0) .nil) rfl rfl rfl) ?_
   refine dO 3 rfl (n9 5 5 false (N9 Tryz.func24) (QV rs fs (by omega) (by omega)) rfl (.cons rfl (.agg (.cons .t0 (.cons .t0 .nil))) .nil) rfl rfl rfl) ?_
   refine dT 4 rfl pA ?_
   refine dT 5 rfl pA ?_
   refine dE ?_
   refine k9<|w9<|rC 5 ?_
   refine d9 (n9 5 10 false (N9 Tryz.func15) (w4 a0 a1 a2 a3 a4 (by omega)) rfl (.cons rfl (.agg (.cons .t0 (.cons .t0 (.cons .t0 (.cons .t0 (.cons .t0 .nil)))))) .nil) rfl rfl rfl) ?_
   refine d9 (M7 rfl rfl rfl rfl) ?_
   refine rM<|c9<|r9 ?_
   refine L9 (fun m=>⟨[(3,some (.c (.ptr 0 0))),(6,some (.c (.ptr 2 0))),(7,some (.c (.t none (.v (.int .i64 0))))),(8,some (.c (.ptr 3 0))),(9,some (.c (.own 4))),(10,some (.c (.t none (.v (.int .i64 (W6 (G9 (m8 (U9 fs))) +(m:Int))))))),(47,some (.c (.own 8))),(48,some (.c (.t none (.v (.int .i64 (((Y5 false (G9 (F9 a0)) (G9 (F9 a1))).length:Int))))))),(49,some (.c (.t none (.v (.int .i64 ((m:Int)))))))],[(0,some (.box [.t none (.sl 3 (d8 Z9 f9 a8) rs),.t none (.sl 2 (E9 f9 (B9 1 f9)) fs)])),(1,some (.box [.t none (.sl 2 (E9 f9 (B9 1 f9)) a0),.t none (.sl 2 (E9 f9 (B9 1 f9)) a1),.t none (.v (.bool a2)),.t none (.v (.int .i64 a3)),.t none (.v (.int .i64 a4))])),(2,some (.box [.t none (.v (.slice none 0 0)),.t none (.v (.slice none 0 0))])),(3,some (.box [.t none (.sl 2 (E9 f9 (B9 1 f9)) a0),.t none (.sl 2 (E9 f9 (B9 1 f9)) a1),.t none (.v (.bool a2)),.t none (.v (.int .i64 a3)),.t none (.v (.int .i64 a4))])),(4,some (.row none 3 true 1 f9 (K4 b ((Y5 false (G9 (F9 a0)) (G9 (F9 a1))).take m) (W6 (G9 (m8 (U9 fs))))))),(8,some (.row none 3 true 1 f9 (Y5 false (G9 (F9 a0)) (G9 (F9 a1)))))],10⟩:Nat→St) (fun m=>m≤(Y5 false (G9 (F9 a0)) (G9 (F9 a1))).length) (fun m=>(Y5 false (G9 (F9 a0)) (G9 (F9 a1))).length - m) 0 ⟨⟨rfl,⟨rfl,⟨rfl,⟨rfl,⟨rfl,⟨(i6 (by simp)),⟨rfl,⟨rfl,⟨rfl,trivial⟩⟩⟩⟩⟩⟩⟩⟩⟩,⟨rfl,⟨rfl,⟨rfl,⟨rfl,⟨rfl,⟨rfl,trivial⟩⟩⟩⟩⟩⟩,rfl⟩ (by exact Nat.zero_le _) ?_
   rintro m hI ih0
   try dsimp only at hI ih0
   have i1:=hI;have ea:R8 rs fs a0 a1 a2 a3 a4 b=true:=(by assumption);have eb:a2=false:=(by assumption);have e5:=X5 ea eb;have eL:=XL ea;have eR:=XR ea eb
   refine w9<|rB<|c9<|k9 ?_
   refine j9 rfl (fun h9=>?_) (fun h9=>?_)
   ·
    have h9':=j8 h9
    refine m9<|k9<|r9<|w9 ?_
    obtain⟨z10,hz11,b12⟩:=t9 (xs:=Y5 false (G9 (F9 a0)) (G9 (F9 a1))) (n:=(m:Int)) (by omega) (by omega)
    refine d9 (t8 rfl (by kernel_rfl) rfl rfl rfl b12 (f8 b12 hz11)) ?_
    refine d9 (p8 rfl (by kernel_rfl) rfl rfl rfl hz11) ?_
    refine rA<|o7 ?_
    refine rM ?_
    refine rM ?_
    refine rM ?_
    refine d9 (n9 10 10 false (N9 Tryz.func25) (RW (W6 (G9 (m8 (U9 fs))) +(m:Int)) (by omega)) rfl (.cons rfl (.c .t0) .nil) rfl rfl rfl) ?_
    obtain⟨z13,hz14,b15⟩:=t9 (xs:=K4 b ((Y5 false (G9 (F9 a0)) (G9 (F9 a1))).take m) (W6 (G9 (m8 (U9 fs))))) (n:=z10) (by(have e2:=eR _ _ (by assumption);(try rw [Y1]);omega)) (by(have e2:=eR _ _ (by assumption);(try rw [Y1]);omega))
    refine d9 (t8 rfl (by kernel_rfl) rfl rfl rfl b15 (f8 b15 hz14)) ?_
    refine d9 (D8 (-1 - (W6 (G9 (m8 (U9 fs))) +(m:Int))) (n:=1) (by kernel_rfl) rfl rfl hz14 rfl rfl rfl rfl (.cons .sc .nil) rfl (fun j h1 h2=>by(simp at h1 h2;omega))) ?_
    refine dJ<|rM ?_
    refine rB ?_
    refine rA<|c9<|i9<|l9 ?_
    refine rB ?_
    refine rM<|c9 ?_
    refine n8 ?_ (ih0 (m + 1) (by(try dsimp only);omega) (by(try dsimp only);omega))
    exact⟨⟨rfl,⟨rfl,⟨rfl,⟨rfl,⟨rfl,⟨(i6 (by rw [s8 (by omega) (by omega)];omega)),⟨rfl,⟨rfl,⟨(i6 (s8 (by omega) (by omega))),trivial⟩⟩⟩⟩⟩⟩⟩⟩⟩,⟨rfl,⟨rfl,⟨rfl,⟨rfl,⟨(E7 (oU hz11)),⟨rfl,trivial⟩⟩⟩⟩⟩⟩,rfl⟩
   ·
    have h9':=l8 h9
    refine R9 rfl<|w9<|rC 2 ?_
    refine d9 (n9 10 14 false (N9 Tryz.func21) (Y7 rs fs (by omega) (by omega)) rfl (.cons rfl (.agg (.cons .t0 (.cons .t0 .nil))) .nil) rfl rfl rfl) ?_
    refine d9 (I9 14 (zs:=[.slice none 0 0,.slice none 0 0]) rfl rfl (by kernel_rfl) rfl) ?_
    refine rS 2<|c9<|k9<|w9 ?_
    refine rF 1 ?_
    refine rL ?_
    refine d9 (S9 rfl rfl rfl) ?_
    refine rM<|c9<|r9 ?_
    refine L9 (fun n=>⟨[(3,some (.c (.ptr 0 0))),(6,some (.c (.ptr 2 0))),(7,some (.c (.t none (.v (.int .i64 0))))),(9,some (.c (.own 4))),(10,some (.c (.t none (.v (.int .i64 (W6 (G9 (m8 (U9 fs))) +(m:Int))))))),(13,some (.c (.ptr 14 0))),(64,some (.c (.t none (.sl 2 (E9 f9 (B9 1 f9)) a1)))),(65,some (.c (.t none (.v (.int .i64 ((a1.length:Int))))))),(66,some (.c (.t none (.v (.int .i64 ((n:Int)))))))],[(0,some (.box [.t none (.sl 3 (d8 Z9 f9 a8) rs),.t none (.sl 2 (E9 f9 (B9 1 f9)) fs)])),(1,some (.box [.t none (.sl 2 (E9 f9 (B9 1 f9)) a0),.t none (.sl 2 (E9 f9 (B9 1 f9)) a1),.t none (.v (.bool a2)),.t none (.v (.int .i64 a3)),.t none (.v (.int .i64 a4))])),(2,some (.box [.t none (.v (.slice none 0 0)),.t none (.v (.slice none 0 0))])),(3,some (.box [.t none (.sl 2 (E9 f9 (B9 1 f9)) a0),.t none (.sl 2 (E9 f9 (B9 1 f9)) a1),.t none (.v (.bool a2)),.t none (.v (.int .i64 a3)),.t none (.v (.int .i64 a4))])),(4,some (.row none 3 true 1 f9 (w3 fs a0 a1 b))),(8,some (.row none 3 true 1 f9 (Y5 false (G9 (F9 a0)) (G9 (F9 a1))))),(12,some (.row none 76 true 3 (d8 Z9 f9 a8) rs)),(13,some (.row none 57 true 2 (E9 f9 (B9 1 f9)) (fs++(a1.take n).map (FV (w3 fs a0 a1 b))))),(14,some (.box [.own 12,.own 13]))],15⟩:Nat→St) (fun n=>n≤a1.length) (fun n=>a1.length - n) 0 ⟨⟨rfl,⟨rfl,⟨rfl,⟨rfl,⟨rfl,⟨rfl,⟨rfl,⟨rfl,⟨rfl,trivial⟩⟩⟩⟩⟩⟩⟩⟩⟩,⟨rfl,⟨rfl,⟨rfl,⟨rfl,⟨(E7 (by rw [List.take_of_length_le (by omega)];rfl)),⟨rfl,⟨rfl,⟨(E7 (by simp)),⟨rfl,trivial⟩⟩⟩⟩⟩⟩⟩⟩⟩,rfl⟩ (by exact Nat.zero_le _) ?_
    rintro n hI ih1
    try dsimp only at hI ih1
    have j1:=hI
    refine w9<|rB<|c9<|k9 ?_
    refine j9 rfl (fun h16=>?_) (fun h16=>?_)
    ·
     have h16':=j8 h16
     refine m9<|k9<|r9<|w9 ?_
     obtain⟨z17,hz18,b19⟩:=t9 (xs:=a1) (n:=(n:Int)) (by omega) (by omega)
     refine d9 (P9 rfl (by kernel_rfl) rfl rfl b19 hz18) ?_
     refine d9 (A6 rfl (n:=2) (by kernel_rfl) (by kernel_rfl) rfl rfl) ?_
     refine d9 (I9 15 (zs:=[.int .i64 0,.slice none 0 0]) rfl rfl (by kernel_rfl) rfl) ?_
     refine rS 2<|o7 ?_
     refine rC 2 ?_
     refine rM ?_
     rcases hm20:Y8 (w3 fs a0 a1 b) z17.2 with _ | q22
     ·
      refine d9 (n9 16 20 false (N9 Tryz.func26) (O5 z17.1 z17.2 (w3 fs a0 a1 b) (by(have e1:=j6 (f:=(fun(x:Int ×(List Int))=>x.2.length)) (l:=a1) (m:=n) (by assumption);(try dsimp only at e1);omega)) (by exact hoh _ (J8 (by assumption))) _ hm20) rfl (.cons rfl (.agg (.cons .t0 (.cons .t0 .nil))) (.cons rfl (.c (.own rfl)) .nil)) rfl rfl rfl) ?_
      refine rM ?_
      refine d9 (O9 rfl rfl rfl rfl) ?_
      refine d9 (O9 rfl rfl rfl rfl) ?_
      refine d9 (I9 20 (zs:=[.int .i64 0,.slice none 0 0]) rfl rfl (by kernel_rfl) rfl) ?_
      refine rS 2 ?_
      refine rA<|dJ ?_
      refine rF 1 ?_
      refine rL ?_
      refine rC 2 ?_
      refine d9 (G8 21 (e:=57) (sz:=2) (zs:=[.int .i64 0,.slice none 0 0]) rfl rfl (by kernel_rfl) rfl rfl rfl rfl rfl) ?_
      refine d9 (i8 13 (e:=57) (sz:=2) (by':=32) ((0,[])) rfl (by kernel_rfl) rfl rfl rfl rfl rfl rfl (.cons .sc (.cons .nil .nil)) rfl (by(simp only [List.length_append,List.length_map,List.length_take];omega)) (by(simp only [List.length_append,List.length_map,List.length_take];omega))) ?_
      refine rF 1 ?_
      refine rS 1<|c9<|i9<|l9 ?_
      refine rB ?_
      refine rM<|c9 ?_
      refine n8 ?_ (ih1 (n + 1) (by(try dsimp only);omega) (by(try dsimp only);omega))
      exact⟨⟨rfl,⟨rfl,⟨rfl,⟨rfl,⟨rfl,⟨rfl,⟨rfl,⟨rfl,⟨(i6 (s8 (by omega) (by omega))),trivial⟩⟩⟩⟩⟩⟩⟩⟩⟩,⟨rfl,⟨rfl,⟨rfl,⟨rfl,⟨rfl,⟨rfl,⟨rfl,⟨(E7 (by exact eM hz18 (by assumption))),⟨rfl,trivial⟩⟩⟩⟩⟩⟩⟩⟩⟩,rfl⟩
     ·
      refine d9 (n9 16 20 false (N9 Tryz.func26) (O5 z17.1 z17.2 (w3 fs a0 a1 b) (by(have e1:=j6 (f:=(fun(x:Int ×(List Int))=>x.2.length)) (l:=a1) (m:=n) (by assumption);(try dsimp only at e1);omega)) (by exact hoh _ (J8 (by assumption))) _ hm20) rfl (.cons rfl (.agg (.cons .t0 (.cons .t0 .nil))) (.cons rfl (.c (.own rfl)) .nil)) rfl rfl rfl) ?_
      refine rM ?_
      refine d9 (O9 rfl rfl rfl rfl) ?_
      refine d9 (O9 rfl rfl rfl rfl) ?_
      refine d9 (I9 20 (zs:=[.int .i64 0,.slice none 0 0]) rfl rfl (by kernel_rfl) rfl) ?_
      refine rS 2 ?_
      refine rA<|dJ ?_
      refine rF 1 ?_
      refine rL ?_
      refine rC 2 ?_
      refine d9 (G8 21 (e:=57) (sz:=2) (zs:=[.int .i64 0,.slice none 0 0]) rfl rfl (by kernel_rfl) rfl rfl rfl rfl rfl) ?_
      refine d9 (i8 13 (e:=57) (sz:=2) (by':=32) ((z17.1,q22)) rfl (by kernel_rfl) rfl rfl rfl rfl rfl rfl (.cons .sc (.take (.own rfl) rfl .nil)) rfl (by(simp only [List.length_append,List.length_map,List.length_take];omega)) (by(simp only [List.length_append,List.length_map,List.length_take];omega))) ?_
      refine rF 1 ?_
      refine rS 1<|c9<|i9<|l9 ?_
      refine rB ?_
      refine rM<|c9 ?_
      refine n8 ?_ (ih1 (n + 1) (by(try dsimp only);omega) (by(try dsimp only);omega))
      exact⟨⟨rfl,⟨rfl,⟨rfl,⟨rfl,⟨rfl,⟨rfl,⟨rfl,⟨rfl,⟨(i6 (s8 (by omega) (by omega))),trivial⟩⟩⟩⟩⟩⟩⟩⟩⟩,⟨rfl,⟨rfl,⟨rfl,⟨rfl,⟨rfl,⟨rfl,⟨rfl,⟨(E7 (by exact nM hz18 (by assumption))),⟨rfl,trivial⟩⟩⟩⟩⟩⟩⟩⟩⟩,rfl⟩
    ·
     have h16':=l8 h16
     refine R9 rfl<|w9<|rF 1 ?_
     refine rL ?_
     refine d9 (n9 15 16 false (N9 Tryz.func27) (cY (fs++(a1.take n).map (FV (w3 fs a0 a1 b))) (by exact Nat.le_trans aJ (by omega))) rfl (.cons rfl (.c (.own rfl)) .nil) rfl rfl rfl) ?_
     refine rF 1 ?_
     refine rS 1<|c9<|k9<|w9 ?_
     refine rM ?_
     refine rB ?_
     refine rM ?_
     refine x9 (fun g23=>?_) (fun g23=>?_)
     ·
      have g23':=l8 g23
      refine rF 1 ?_
      refine x9 (fun _=>?_) (C9 g23)
      refine rL ?_
      refine x9 (fun _=>?_) (C9 g23)
      refine d9 (M7 rfl rfl rfl rfl) ?_
      refine x9 (fun _=>?_) (C9 g23)
      refine rB ?_
      refine d9 (H9 rfl rfl g23 rfl) ?_
      refine c9 ?_
      refine j9 rfl (fun h24=>?_) (fun h24=>?_)
      ·
       have h24':=j8 h24
       refine w9<|rC 2 ?_
       refine d9 (n9 16 20 false (N9 Tryz.func21) (Y7 rs fs (by omega) (by omega)) rfl (.cons rfl (.agg (.cons .t0 (.cons .t0 .nil))) .nil) rfl rfl rfl) ?_
       refine rS 2 ?_
       refine rA<|c9 ?_
       refine T7 4 18 rfl rfl rfl ?_
       refine T7 5 19 rfl rfl rfl ?_
       refine tk Tryz.func6 (r8 2 (.tmp rfl .nil)) ?_ (hL:=⟨E7 ?_,⟨E7 ?_,trivial⟩⟩) <;>(try clear ih0) <;>(try clear ih1)
       all_goals(((have et:nZ (fs++(a1.take n).map (FV (w3 fs a0 a1 b)))=O1 fs a0 a1 b:=(by rw [List.take_of_length_le (by omega)];rfl));have en:(tW a0 a1).length=(Y5 false (G9 (F9 a0)) (G9 (F9 a1))).length:=rfl;have eN:GT fs=W6 (G9 (m8 (U9 fs))):=rfl;(have e8:=lW (rs:=rs) (fs:=fs) (a0:=a0) (a1:=a1) (a2:=a2) (a3:=a3) (a4:=a4) (v:=b) ea eb (by exact qP (by rw [← et];omega));first | (rw [e8.1];done) | (rw [e8.2.1];done) | (rw [e8.2.2];rfl))))
      ·
       have h24':=l8 h24
       refine m9<|w9<|rC 2 ?_
       refine rS 2 ?_
       refine rA<|c9 ?_
       refine T7 4 12 rfl rfl rfl ?_
       refine T7 5 15 rfl rfl rfl ?_
       refine tk Tryz.func6 (r8 2 (.tmp rfl .nil)) ?_ (hL:=⟨E7 ?_,⟨E7 ?_,trivial⟩⟩) <;>(try clear ih0) <;>(try clear ih1)
       all_goals(((have et:nZ (fs++(a1.take n).map (FV (w3 fs a0 a1 b)))=O1 fs a0 a1 b:=(by rw [List.take_of_length_le (by omega)];rfl));have en:(tW a0 a1).length=(Y5 false (G9 (F9 a0)) (G9 (F9 a1))).length:=rfl;have eN:GT fs=W6 (G9 (m8 (U9 fs))):=rfl;(have e8:=IR (rs:=rs) (fs:=fs) (a0:=a0) (a1:=a1) (a2:=a2) (a3:=a3) (a4:=a4) (v:=b) ea eb (pN (by omega) (by rw [← et];omega));first | (rw [e8.1];done) | (rw [e8.2.1,et];done) | (rw [e8.2.2];rfl))))
     ·
      have g23':=j8 g23
      refine x9 (nc g23) (fun _=>?_)
      refine x9 (nc g23) (fun _=>?_)
      refine x9 (nc g23) (fun _=>?_)
      refine d9 (M9 rfl rfl g23 rfl) ?_
      refine c9 ?_
      refine j9 rfl (fun _=>?_) (nc rfl)
      refine w9<|rC 2 ?_
      refine d9 (n9 16 20 false (N9 Tryz.func21) (Y7 rs fs (by omega) (by omega)) rfl (.cons rfl (.agg (.cons .t0 (.cons .t0 .nil))) .nil) rfl rfl rfl) ?_
      refine rS 2 ?_
      refine rA<|c9 ?_
      refine T7 4 18 rfl rfl rfl ?_
      refine T7 5 19 rfl rfl rfl ?_
      refine tk Tryz.func6 (r8 2 (.tmp rfl .nil)) ?_ (hL:=⟨E7 ?_,⟨E7 ?_,trivial⟩⟩) <;>(try clear ih0) <;>(try clear ih1)
      all_goals(((have et:nZ (fs++(a1.take n).map (FV (w3 fs a0 a1 b)))=O1 fs a0 a1 b:=(by rw [List.take_of_length_le (by omega)];rfl));have en:(tW a0 a1).length=(Y5 false (G9 (F9 a0)) (G9 (F9 a1))).length:=rfl;have eN:GT fs=W6 (G9 (m8 (U9 fs))):=rfl;(have e8:=lW (rs:=rs) (fs:=fs) (a0:=a0) (a1:=a1) (a2:=a2) (a3:=a3) (a4:=a4) (v:=b) ea eb (by exact RO (by omega));first | (rw [e8.1];done) | (rw [e8.2.1];done) | (rw [e8.2.2];rfl))))
theorem D4 (ns vs:List Int)(hn:ns.length≤4611686018427387904)(hv:vs.length≤4611686018427387904)(on:∀x∈ns,s7 x)(ov:∀x∈vs,s7 x):Pu Tryz.prog 72 [.agg [.t none (.sl 1 f9 ns),.t none (.sl 1 f9 vs)]] [] 0 (.c (.t none (.v (.bool (D5 ns vs))))):=by
 refine u6 Tryz.func72 fun w S=>?_
 refine w9 ?_
 refine d9 (X9 0 rfl rfl rfl rfl) ?_
 refine rA<|c9<|k9<|w9 ?_
 refine rF 0 ?_
 refine rL ?_
 refine d9 (S9 rfl rfl rfl) ?_
 refine rF 1 ?_
 refine rL ?_
 refine d9 (S9 rfl rfl rfl) ?_
 refine rB<|c9 ?_
 refine j9 rfl (fun h1=>?_) (fun h1=>?_)
 ·
  have h1':=j8 h1
  refine w9<|rA<|c9 ?_
  refine tk Tryz.func72 (.tmp rfl .nil) ?_ <;>(try clear ih0)
  all_goals(refine N7 ?_;(rw [vS (by omega)];done))
 ·
  have h1':=l8 h1
  refine m9<|k9<|w9<|rA<|c9<|r9 ?_
  refine L9 (fun m=>⟨[(1,some (.c (.ptr 0 0))),(3,some (.c (.t none (.v (.int .i64 ((m:Int)))))))],[(0,some (.box [.t none (.sl 1 f9 ns),.t none (.sl 1 f9 vs)]))],1⟩:Nat→St) (fun m=>m≤ns.length∧ns.length=vs.length∧∀j,j < m→H6 ns vs j=true) (fun m=>ns.length - m) 0 ⟨⟨rfl,⟨rfl,trivial⟩⟩,⟨rfl,trivial⟩,rfl⟩ (by exact⟨Nat.zero_le _,by omega,fun j h=>by omega⟩) ?_
  rintro m hI ih0
  try dsimp only at hI ih0
  obtain⟨i1,i2,i3⟩:=hI
  refine k9<|w9<|rM ?_
  refine rF 0 ?_
  refine rL ?_
  refine d9 (S9 rfl rfl rfl) ?_
  refine rB<|c9 ?_
  refine j9 rfl (fun h2=>?_) (fun h2=>?_)
  ·
   have h2':=j8 h2
   refine m9<|k9<|r9<|k9 ?_
   refine tY ?_
   refine dT 0 rfl (pF 0) ?_
   refine dT 1 rfl pL ?_
   refine dT 2 rfl pM ?_
   obtain⟨z3,hz4,b5⟩:=t9 (xs:=ns) (n:=(m:Int)) (by omega) (by omega)
   refine dT 3 rfl (w8 (by kernel_rfl) rfl rfl b5 hz4) ?_
   refine dT 4 rfl (t7 (by kernel_rfl) rfl rfl) ?_
   refine dO 5 rfl (n9 1 1 false (N9 Tryz.func71) (X6 z3 0 39) rfl (.cons rfl (.c .t0) (.cons rfl (.c .t0) (.cons rfl (.c .t0) .nil))) rfl rfl rfl) ?_
   refine dT 6 rfl (T3 rfl) ?_
   refine dT 7 rfl pM ?_
   refine dH 8 rfl (fun _=>pM) (fun g6=>?_) (fun g6=>?_)
   ·
    have g6':=j8 (O4 g6)
    refine dH 9 rfl (fun _=>pB) (fun _=>?_) (C9 g6)
    refine dH 10 rfl (fun _=>pM) (fun _=>?_) (C9 g6)
    refine dH 11 rfl (fun _=>pF 0) (fun g7=>?_) (fun g7=>?_)
    ·
     have g7':=j8 g7
     refine dH 12 rfl (fun _=>pL) (fun _=>?_) (nc g7)
     refine dH 13 rfl (fun _=>pM) (fun _=>?_) (nc g7)
     refine dH 14 rfl (fun _=>w8 (by kernel_rfl) rfl rfl b5 hz4) (fun _=>?_) (nc g7)
     refine dH 15 rfl (fun _=>t7 (by kernel_rfl) rfl rfl) (fun _=>?_) (nc g7)
     refine dH 16 rfl (fun _=>pF 0) (fun _=>?_) (nc g7)
     refine dH 17 rfl (fun _=>pL) (fun _=>?_) (nc g7)
     refine dH 18 rfl (fun _=>pM) (fun _=>?_) (nc g7)
     refine dH 19 rfl (fun _=>pB) (fun _=>?_) (nc g7)
     obtain⟨z8,hz9,b10⟩:=t9 (xs:=ns) (n:=IntKind.i64.wrap ((m:Int) - 1)) (by(simp only [IntKind.wrap_i64] at *;omega)) (by(simp only [IntKind.wrap_i64] at *;omega))
     refine dH 20 rfl (fun _=>w8 (by kernel_rfl) rfl rfl b10 hz9) (fun _=>?_) (nc g7)
     refine dH 21 rfl (fun _=>t7 (by kernel_rfl) rfl rfl) (fun _=>?_) (nc g7)
     refine dH 22 rfl (fun _=>pB) (fun _=>?_) (nc g7)
     refine dH 23 rfl (fun _=>H8 rfl g7 rfl) (fun _=>?_) (C9 g6)
     refine dT 24 rfl (o8 rfl g6 rfl) ?_
     refine dT 25 rfl pM ?_
     refine dH 26 rfl (fun _=>pF 1) (fun g11=>?_) (fun g11=>?_)
     ·
      have g11':=l8 g11
      refine dH 27 rfl (fun _=>pL) (fun _=>?_) (C9 g11)
      refine dH 28 rfl (fun _=>pM) (fun _=>?_) (C9 g11)
      obtain⟨z12,hz13,b14⟩:=t9 (xs:=vs) (n:=(m:Int)) (by omega) (by omega)
      refine dH 29 rfl (fun _=>w8 (by kernel_rfl) rfl rfl b14 hz13) (fun _=>?_) (C9 g11)
      refine dH 30 rfl (fun _=>t7 (by kernel_rfl) rfl rfl) (fun _=>?_) (C9 g11)
      refine s6 31 rfl rfl (by kernel_rfl) rfl rfl rfl (fun _=>(n9 1 1 false (N9 Tryz.func78) (F6 z12 (by exact(ov _ (J8 (by assumption))).1) (by exact(ov _ (J8 (by assumption))).2)) rfl (.cons rfl (.c .t0) .nil) rfl rfl rfl)) (fun _=>?_) (C9 g11)
      refine dH 32 rfl (fun _=>T3 rfl) (fun _=>?_) (C9 g11)
      refine dT 33 rfl (o8 rfl g11 rfl) ?_
      refine dE ?_
      refine j9 rfl (fun h15=>?_) (fun h15=>?_)
      ·
       have h15':=l8 (P4 h15)
       refine w9<|rA<|c9 ?_
       refine tk Tryz.func72 (.tmp rfl .nil) ?_ <;>(try clear ih0)
       all_goals(refine N7 ?_;(rw [D3 (m:=m) (by omega) (by exact dX (by assumption) (by omega))];done))
      ·
       have h15':=j8 (O4 h15)
       refine m9<|i9<|l9<|rM ?_
       refine rB ?_
       refine rA<|c9 ?_
       refine n8 ?_ (ih0 (m + 1) (by(try dsimp only);omega) (by(try dsimp only);exact⟨by omega,i2,d6 i3 (by(rw [JS (m:=m) (by assumption) (by assumption) (by omega) (by assumption) (by(try simp only [IntKind.wrap_i64]);omega),decide_eq_true (by omega),decide_eq_true (by omega),decide_eq_true (by omega)];rfl))⟩))
       exact⟨⟨rfl,⟨(i6 (s8 (by omega) (by omega))),trivial⟩⟩,⟨rfl,trivial⟩,rfl⟩
     ·
      have g11':=j8 g11
      refine dG 27 (nc g11) (fun _=>?_)
      refine dG 28 (nc g11) (fun _=>?_)
      refine dG 29 (nc g11) (fun _=>?_)
      refine dG 30 (nc g11) (fun _=>?_)
      refine dG 31 (nc g11) (fun _=>?_)
      refine dG 32 (nc g11) (fun _=>?_)
      refine dT 33 rfl (H8 rfl g11 rfl) ?_
      refine dE ?_
      refine j9 rfl (fun _=>?_) (nc rfl)
      refine w9<|rA<|c9 ?_
      refine tk Tryz.func72 (.tmp rfl .nil) ?_ <;>(try clear ih0)
      all_goals(refine N7 ?_;(rw [D3 (m:=m) (by omega) (by exact uS (m:=m) (by assumption) (by omega) (by assumption) (by(try simp only [IntKind.wrap_i64]);omega) (by omega))];done))
    ·
     have g7':=l8 g7
     refine dG 12 (C9 g7) (fun _=>?_)
     refine dG 13 (C9 g7) (fun _=>?_)
     refine dG 14 (C9 g7) (fun _=>?_)
     refine dG 15 (C9 g7) (fun _=>?_)
     refine dG 16 (C9 g7) (fun _=>?_)
     refine dG 17 (C9 g7) (fun _=>?_)
     refine dG 18 (C9 g7) (fun _=>?_)
     refine dG 19 (C9 g7) (fun _=>?_)
     refine dG 20 (C9 g7) (fun _=>?_)
     refine dG 21 (C9 g7) (fun _=>?_)
     refine dG 22 (C9 g7) (fun _=>?_)
     refine dH 23 rfl (fun _=>o8 rfl g7 rfl) (fun _=>?_) (C9 g6)
     refine dT 24 rfl (o8 rfl g6 rfl) ?_
     refine dT 25 rfl pM ?_
     refine dH 26 rfl (fun _=>pF 1) (fun _=>?_) (C9 rfl)
     refine dH 27 rfl (fun _=>pL) (fun _=>?_) (C9 rfl)
     refine dH 28 rfl (fun _=>pM) (fun _=>?_) (C9 rfl)
     obtain⟨z16,hz17,b18⟩:=t9 (xs:=vs) (n:=(m:Int)) (by omega) (by omega)
     refine dH 29 rfl (fun _=>w8 (by kernel_rfl) rfl rfl b18 hz17) (fun _=>?_) (C9 rfl)
     refine dH 30 rfl (fun _=>t7 (by kernel_rfl) rfl rfl) (fun _=>?_) (C9 rfl)
     refine s6 31 rfl rfl (by kernel_rfl) rfl rfl rfl (fun _=>(n9 1 1 false (N9 Tryz.func78) (F6 z16 (by exact(ov _ (J8 (by assumption))).1) (by exact(ov _ (J8 (by assumption))).2)) rfl (.cons rfl (.c .t0) .nil) rfl rfl rfl)) (fun _=>?_) (C9 rfl)
     refine dH 32 rfl (fun _=>T3 rfl) (fun _=>?_) (C9 rfl)
     refine dT 33 rfl (o8 rfl rfl rfl) ?_
     refine dE ?_
     refine j9 rfl (fun h19=>?_) (fun h19=>?_)
     ·
      have h19':=l8 (P4 h19)
      refine w9<|rA<|c9 ?_
      refine tk Tryz.func72 (.tmp rfl .nil) ?_ <;>(try clear ih0)
      all_goals(refine N7 ?_;(rw [D3 (m:=m) (by omega) (by exact dX (by assumption) (by omega))];done))
     ·
      have h19':=j8 (O4 h19)
      refine m9<|i9<|l9<|rM ?_
      refine rB ?_
      refine rA<|c9 ?_
      refine n8 ?_ (ih0 (m + 1) (by(try dsimp only);omega) (by(try dsimp only);exact⟨by omega,i2,d6 i3 (by(rw [NW (m:=m) (by assumption) (by assumption) (by omega),decide_eq_true (by omega),decide_eq_true (by omega)];rfl))⟩))
      exact⟨⟨rfl,⟨(i6 (s8 (by omega) (by omega))),trivial⟩⟩,⟨rfl,trivial⟩,rfl⟩
   ·
    have g6':=l8 (P4 g6)
    refine dG 9 (nc g6) (fun _=>?_)
    refine dG 10 (nc g6) (fun _=>?_)
    refine dK 11 ?_
    refine dK 12 ?_
    refine dK 13 ?_
    refine dK 14 ?_
    refine dK 15 ?_
    refine dK 16 ?_
    refine dK 17 ?_
    refine dK 18 ?_
    refine dK 19 ?_
    refine dK 20 ?_
    refine dK 21 ?_
    refine dK 22 ?_
    refine dG 23 (nc g6) (fun _=>?_)
    refine dT 24 rfl (H8 rfl g6 rfl) ?_
    refine dT 25 rfl pM ?_
    refine dG 26 (nc rfl) (fun _=>?_)
    refine dG 27 (nc rfl) (fun _=>?_)
    refine dG 28 (nc rfl) (fun _=>?_)
    refine dG 29 (nc rfl) (fun _=>?_)
    refine dG 30 (nc rfl) (fun _=>?_)
    refine dG 31 (nc rfl) (fun _=>?_)
    refine dG 32 (nc rfl) (fun _=>?_)
    refine dT 33 rfl (H8 rfl rfl rfl) ?_
    refine dE ?_
    refine j9 rfl (fun _=>?_) (nc rfl)
    refine w9<|rA<|c9 ?_
    refine tk Tryz.func72 (.tmp rfl .nil) ?_ <;>(try clear ih0)
    all_goals(refine N7 ?_;(rw [D3 (m:=m) (by omega) (by exact xS (by assumption) (by omega))];done))
  ·
   have h2':=l8 h2
   refine R9 rfl<|w9<|rA<|c9 ?_
   refine tk Tryz.func72 (.tmp rfl .nil) ?_ <;>(try clear ih0)
   all_goals(refine N7 ?_;(rw [ZW i2 i3 (by omega)];done))
theorem AX (ns vs:List Int)(v:Int)(hn:ns.length≤4611686018427387904)(hv:vs.length≤4611686018427387904)(on:∀x∈ns,s7 x)(ov:∀x∈vs,s7 x)(hv1: -9223372036854775808≤v)(hv2:v≤9223372036854775807):Pu Tryz.prog 117 [.agg [.t none (.sl 1 f9 ns),.t none (.sl 1 f9 vs)],.c (.t none (.v (.int .i64 v)))] [] 0 (.c (.t none (.v (.int .i64 (W0 ns vs v))))):=by
 refine u6 Tryz.func117 fun w S=>?_
 have sl:D5 ns vs=true→ns.length=vs.length:=(fun h=>by unfold D5 at h;rw [Bool.and_eq_true] at h;exact j8 h.1);have s39:D5 ns vs=true→∀(k:Nat) y,ns[k]? =some y→0≤y∧y≤39:=(fun h k y hy=>gH h hy)
 refine w9 ?_
 refine d9 (X9 0 rfl rfl rfl rfl) ?_
 refine rA<|c9<|k9<|w9 ?_
 refine rA<|c9<|r9 ?_
 refine L9 (fun m=>⟨[(1,some (.c (.t none (.v (.int .i64 v))))),(2,some (.c (.ptr 0 0))),(5,some (.c (.t none (.v (.int .i64 ((m:Int)))))))],[(0,some (.box [.t none (.sl 1 f9 ns),.t none (.sl 1 f9 vs)]))],1⟩:Nat→St) (fun m=>m≤ns.length∧∀j y,j < m→ns[j]? =some y→y≠ -1 - v) (fun m=>ns.length - m) 0 ⟨⟨rfl,⟨rfl,⟨rfl,trivial⟩⟩⟩,⟨rfl,trivial⟩,rfl⟩ (by exact⟨Nat.zero_le _,fun j y h=>by omega⟩) ?_
 rintro m hI ih0
 try dsimp only at hI ih0
 obtain⟨i1,i2⟩:=hI
 refine k9<|w9<|rM ?_
 refine rF 0 ?_
 refine rL ?_
 refine d9 (S9 rfl rfl rfl) ?_
 refine rB ?_
 refine rM ?_
 refine x9 (fun g1=>?_) (fun g1=>?_)
 ·
  have g1':=j8 g1
  refine rC 2 ?_
  refine x9 (fun _=>?_) (nc g1)
  refine d9 (n9 1 1 false (N9 Tryz.func72) (D4 ns vs (by omega) (by omega) (by omega) (by omega)) rfl (.cons rfl (.agg (.cons .t0 (.cons .t0 .nil))) .nil) rfl rfl rfl) ?_
  refine d9 (M9 rfl rfl g1 rfl) ?_
  refine c9 ?_
  refine j9 rfl (fun h2=>?_) (fun h2=>?_)
  ·
   have h2':=h2
   refine m9<|k9<|r9<|w9<|rF 0 ?_
   refine rL ?_
   refine rM ?_
   obtain⟨z3,hz4,b5⟩:=t9 (xs:=ns) (n:=(m:Int)) (by omega) (by omega)
   refine d9 (P9 rfl (by kernel_rfl) rfl rfl b5 hz4) ?_
   refine d9 (c8 rfl (by kernel_rfl) rfl rfl) ?_
   refine d9 (n9 1 1 false (N9 Tryz.func33) (H2 z3 (by(have e7:=s39 (by assumption) _ _ (by assumption);omega))) rfl (.cons rfl (.c .t0) .nil) rfl rfl rfl) ?_
   refine rM ?_
   refine rB<|c9 ?_
   refine j9 rfl (fun h6=>?_) (fun h6=>?_)
   ·
    have h6':=j8 h6
    refine w9<|rF 1 ?_
    refine rL ?_
    refine rM ?_
    obtain⟨z7,hz8,b9⟩:=t9 (xs:=vs) (n:=(m:Int)) (by omega) (by(have e7:=sl (by assumption);omega))
    refine d9 (P9 rfl (by kernel_rfl) rfl rfl b9 hz8) ?_
    refine d9 (c8 rfl (by kernel_rfl) rfl rfl) ?_
    refine rA<|c9 ?_
    refine tk Tryz.func117 (.tmp rfl .nil) ?_ <;>(try clear ih0)
    all_goals(refine qX ?_;(exact YR (by assumption) i2 hz4 (by omega) hz8))
   ·
    have h6':=l8 h6
    refine m9<|i9<|l9<|rM ?_
    refine rB ?_
    refine rA<|c9 ?_
    refine n8 ?_ (ih0 (m + 1) (by(try dsimp only);omega) (by(try dsimp only);exact⟨by omega,vI i2 hz4 rfl (by omega)⟩))
    exact⟨⟨rfl,⟨rfl,⟨(i6 (s8 (by omega) (by omega))),trivial⟩⟩⟩,⟨rfl,trivial⟩,rfl⟩
  ·
   have h2':=h2
   refine R9 rfl<|w9<|rM ?_
   refine rA<|c9 ?_
   refine tk Tryz.func117 (.tmp rfl .nil) ?_ <;>(try clear ih0)
   all_goals(refine qX ?_;(exact vK (by assumption)))
 ·
  have g1':=l8 g1
  refine x9 (C9 g1) (fun _=>?_)
  refine d9 (H9 rfl rfl g1 rfl) ?_
  refine c9 ?_
  refine j9 rfl (C9 rfl) (fun _=>?_)
  refine R9 rfl<|w9<|rM ?_
  refine rA<|c9 ?_
  refine tk Tryz.func117 (.tmp rfl .nil) ?_ <;>(try clear ih0)
  all_goals(refine qX ?_;(exact NS i2 (by omega)))
theorem RX (ns vs:List Int)(r:Int)(ts:List Int)(hn:ns.length≤4611686018427387904)(hv:vs.length≤4611686018427387904)(on:∀x∈ns,s7 x)(ov:∀x∈vs,s7 x)(hts:ts.length≤1048576)(ot:∀x∈ts,s7 x):Pu Tryz.prog 74 [.agg [.t none (.sl 1 f9 ns),.t none (.sl 1 f9 vs)],.agg [.t none (.v (.int .i64 r)),.t none (.sl 1 f9 ts)]] [(4,some (.row none 3 true 1 f9 (ts.map (W0 ns vs))))] 5 (.agg [.t none (.v (.int .i64 r)),.own 4]):=by
 refine u6 Tryz.func74 fun w S=>?_
 refine w9 ?_
 refine d9 (X9 0 rfl rfl rfl rfl) ?_
 refine d9 (X9 1 rfl rfl rfl rfl) ?_
 refine d9 (I9 2 (zs:=[.int .i64 0,.slice none 0 0]) rfl rfl (by kernel_rfl) rfl) ?_
 refine o7<|rF 0 ?_
 refine rL ?_
 refine d9 (oD [(0,1),(1,1)] [.int .i64 0,.slice none 0 0]) ?_
 refine d9 (I9 3 (zs:=[.int .i64 0,.slice none 0 0]) rfl rfl (by kernel_rfl) rfl) ?_
 refine rS 2<|c9<|k9<|w9 ?_
 refine rA<|c9<|r9 ?_
 refine I6 4 (b:=3) (o:=1) (et:=3) (sz:=1) true f9 rfl rfl rfl ?_
 refine L9 (fun m=>⟨[(2,some (.c (.ptr 0 0))),(3,some (.c (.ptr 1 0))),(4,some (.c (.ptr 2 0))),(5,some (.c (.ptr 3 0))),(6,some (.c (.t none (.v (.int .i64 ((m:Int)))))))],[(0,some (.box [.t none (.sl 1 f9 ns),.t none (.sl 1 f9 vs)])),(1,some (.box [.t none (.v (.int .i64 r)),.t none (.sl 1 f9 ts)])),(2,some (.box [.t none (.v (.int .i64 0)),.t none (.v (.slice none 0 0))])),(3,some (.box [.t none (.v (.int .i64 r)),.own 4])),(4,some (.row none 3 true 1 f9 ((ts.take m).map (W0 ns vs))))],5⟩:Nat→St) (fun m=>m≤ts.length) (fun m=>ts.length - m) 0 ⟨⟨rfl,⟨rfl,⟨rfl,⟨rfl,⟨rfl,trivial⟩⟩⟩⟩⟩,⟨rfl,⟨rfl,⟨rfl,⟨rfl,⟨rfl,trivial⟩⟩⟩⟩⟩,rfl⟩ (by exact Nat.zero_le _) ?_
 rintro m hI ih0
 try dsimp only at hI ih0
 have i1:=hI
 refine k9<|w9<|rM ?_
 refine rF 1 ?_
 refine rL ?_
 refine d9 (S9 rfl rfl rfl) ?_
 refine rB<|c9 ?_
 refine j9 rfl (fun h1=>?_) (fun h1=>?_)
 ·
  have h1':=j8 h1
  refine m9<|k9<|r9 ?_
  refine tD (fun i=>!(Nat.beq i 10||Nat.beq i 12)) ?_
  refine dT 0 rfl (pF 1) ?_
  refine dT 1 rfl pL ?_
  refine dT 2 rfl (pC 2) ?_
  refine dT 3 rfl (pF 1) ?_
  refine dT 4 rfl pL ?_
  refine dT 5 rfl pM ?_
  obtain⟨z2,hz3,b4⟩:=t9 (xs:=ts) (n:=(m:Int)) (by omega) (by omega)
  refine dT 6 rfl (w8 (by kernel_rfl) rfl rfl b4 hz3) ?_
  refine dT 7 rfl (t7 (by kernel_rfl) rfl rfl) ?_
  refine dO 8 rfl (n9 5 5 false (N9 Tryz.func117) (AX ns vs z2 (by omega) (by omega) (by omega) (by omega) (by exact(ot _ (J8 (by assumption))).1) (by exact(ot _ (J8 (by assumption))).2)) rfl (.cons rfl (.agg (.cons .t0 (.cons .t0 .nil))) (.cons rfl (.c .t0) .nil)) rfl rfl rfl) ?_
  refine dO 9 rfl (G8 5 (e:=3) (sz:=1) (zs:=[.int .i64 0]) rfl rfl (by kernel_rfl) rfl rfl rfl rfl rfl) ?_
  refine dO 10 rfl (i8 4 (e:=3) (sz:=1) (by':=8) (W0 ns vs z2) rfl (by kernel_rfl) rfl rfl rfl rfl rfl rfl (.cons .sc .nil) rfl (by(simp;omega)) (by(simp;omega))) ?_
  refine dT 11 rfl (pF 1) ?_
  refine dO 12 rfl (oS 1) ?_
  refine dE ?_
  refine i9<|l9<|rM ?_
  refine rB ?_
  refine rA<|c9 ?_
  refine n8 ?_ (ih0 (m + 1) (by(try dsimp only);omega) (by(try dsimp only);omega))
  exact⟨⟨rfl,⟨rfl,⟨rfl,⟨rfl,⟨(i6 (s8 (by omega) (by omega))),trivial⟩⟩⟩⟩⟩,⟨rfl,⟨rfl,⟨rfl,⟨rfl,⟨(E7 (NQ hz3)),trivial⟩⟩⟩⟩⟩,rfl⟩
 ·
  have h1':=l8 h1
  refine R9 rfl<|w9<|rC 2 ?_
  refine rS 2<|c9 ?_
  refine tk Tryz.func74 (r8 2 .nil) ?_ (hL:=⟨E7 ?_,trivial⟩) <;>(try clear ih0)
  all_goals first | rfl | ((rw [List.take_of_length_le (by omega)]))
theorem K3 (ns vs:List Int)(rs:V9)(fs:p9)(hn:ns.length≤4611686018427387904)(hv:vs.length≤4611686018427387904)(on:∀x∈ns,s7 x)(ov:∀x∈vs,s7 x)(hrs:rs.length≤1048576)(hfs:l7 (fun(x:Int ×(List Int))=>x.2.length) fs≤1048576)(ho:∀z∈fs,∀x∈z.2,s7 x):Pu Tryz.prog 30 [.agg [.t none (.sl 1 f9 ns),.t none (.sl 1 f9 vs)],.agg [.t none (.sl 3 (d8 Z9 f9 a8) rs),.t none (.sl 2 (E9 f9 (B9 1 f9)) fs)]] [] 0 (.tup [(true,[.t none (.sl 3 (d8 Z9 f9 a8) (HV rs fs ns vs)),.t none (.sl 2 (E9 f9 (B9 1 f9)) (LV rs fs ns vs))]),(false,[.t none (.v (.bool (wZ rs fs ns vs)))])]):=by
 refine u6 Tryz.func30 fun w S=>?_
 have gl:=L8 (f:=(fun(x:Int ×(List Int))=>x.2.length)) (l:=fs)
 refine w9 ?_
 refine d9 (X9 0 rfl rfl rfl rfl) ?_
 refine d9 (X9 1 rfl rfl rfl rfl) ?_
 refine d9 (I9 2 (zs:=[.slice none 0 0,.slice none 0 0]) rfl rfl (by kernel_rfl) rfl) ?_
 refine rA<|c9<|k9<|w9 ?_
 refine rC 2 ?_
 refine d9 (n9 3 3 false (N9 Tryz.func72) (D4 ns vs (by omega) (by omega) (by omega) (by omega)) rfl (.cons rfl (.agg (.cons .t0 (.cons .t0 .nil))) .nil) rfl rfl rfl) ?_
 refine d9 (Q8 rfl rfl) ?_
 refine rM ?_
 refine x9 (fun g1=>?_) (fun g1=>?_)
 ·
  have g1':=(O4 g1)
  refine rC 2 ?_
  refine x9 (fun _=>?_) (C9 g1)
  refine d9 (n9 3 3 false (N9 Tryz.func73) (T5 rs fs (by omega) (by omega) (by omega)) rfl (.cons rfl (.agg (.cons .t0 (.cons .t0 .nil))) .nil) rfl rfl rfl) ?_
  refine x9 (fun _=>?_) (C9 g1)
  refine d9 (Q8 rfl rfl) ?_
  refine d9 (H9 rfl rfl g1 rfl) ?_
  refine c9 ?_
  refine j9 rfl (fun h2=>?_) (fun h2=>?_)
  ·
   have h2':=(P4 h2)
   refine w9 ?_
   refine d9 (oD [(0,1),(1,1)] [.slice none 0 0,.slice none 0 0]) ?_
   refine rS 2 ?_
   refine rA<|c9 ?_
   refine I6 3 (b:=2) (o:=0) (et:=76) (sz:=3) true (d8 Z9 f9 a8) rfl rfl rfl ?_
   refine I6 4 (b:=2) (o:=1) (et:=57) (sz:=2) true (E9 f9 (B9 1 f9)) rfl rfl rfl ?_
   refine o9 3 rfl (K9 rfl) ?_
   refine o9 4 rfl (K9 rfl) ?_
   refine tk Tryz.func30 (r8 2 (.tmp rfl .nil)) ?_ <;>(try clear ih0)
   all_goals((have e8:=pO (rs:=rs) (fs:=fs) (ns:=ns) (vs:=vs) (by assumption);(rw [e8.1,e8.2.1,e8.2.2];rfl)))
  ·
   have h2':=(O4 h2)
   refine m9<|w9 ?_
   refine d9 (C7 3 (e:=76) (sz:=3) (zs:=[.string (JY ([])),.int .i64 0,.bool false]) (d8 Z9 f9 a8) rfl rfl (by kernel_rfl) rfl) ?_
   refine rF 0 ?_
   refine rL ?_
   refine d9 (a7 3 (e:=76) (sz:=3) (by':=32) rfl (by kernel_rfl) rfl rfl rfl rfl (fun _ j=>by rcases j with _ | _ | j <;> exact⟨_,rfl⟩) (by(simp;omega)) (by(simp;omega))) ?_
   refine d9 (oD [(0,1),(1,1)] [.slice none 0 0,.slice none 0 0]) ?_
   refine d9 (I9 4 (zs:=[.slice none 0 0,.slice none 0 0]) rfl rfl (by kernel_rfl) rfl) ?_
   refine rS 2<|c9<|k9<|w9 ?_
   refine rA<|c9<|r9 ?_
   refine o9 3 rfl (K9 rfl) ?_
   refine zR 4 1 (sz:=2) (E9 f9 (B9 1 f9)) rfl rfl ?_
   refine L9 (fun(m,gs)=>⟨[(2,some (.c (.ptr 0 0))),(3,some (.c (.ptr 1 0))),(4,some (.c (.ptr 2 0))),(5,some (.c (.t none (.v (.bool false))))),(6,some (.c (.ptr 4 0))),(7,some (.c (.t none (.v (.int .i64 ((m:Int)))))))],[(0,some (.box [.t none (.sl 1 f9 ns),.t none (.sl 1 f9 vs)])),(1,some (.box [.t none (.sl 3 (d8 Z9 f9 a8) rs),.t none (.sl 2 (E9 f9 (B9 1 f9)) fs)])),(2,some (.box [.t none (.v (.slice none 0 0)),.t none (.v (.slice none 0 0))])),(4,some (.box [.t none (.sl 3 (d8 Z9 f9 a8) ([]++rs)),.t none (.sl 2 (E9 f9 (B9 1 f9)) gs)]))],5⟩:Nat × p9→St) (fun(m,gs)=>m≤fs.length∧gs=G5 [] ((fs.take m).map (LZ ns vs))) (fun(m,gs)=>fs.length - m) (0,[]) ⟨⟨rfl,⟨rfl,⟨rfl,⟨rfl,⟨rfl,⟨rfl,trivial⟩⟩⟩⟩⟩⟩,⟨rfl,⟨rfl,⟨rfl,⟨rfl,trivial⟩⟩⟩⟩,rfl⟩ (by exact⟨Nat.zero_le _,rfl⟩) ?_
   rintro⟨m,gs⟩ hI ih0
   try dsimp only at hI ih0
   obtain⟨i1,i2⟩:=hI;have ar:=uL i2
   refine k9<|w9<|rM ?_
   refine rF 1 ?_
   refine rL ?_
   refine d9 (S9 rfl rfl rfl) ?_
   refine rB<|c9 ?_
   refine j9 rfl (fun h3=>?_) (fun h3=>?_)
   ·
    have h3':=j8 h3
    refine m9<|k9<|r9 ?_
    refine tD (fun i=>!(Nat.beq i 9)) ?_
    refine dT 0 rfl (pC 2) ?_
    refine dT 1 rfl (pC 2) ?_
    refine dT 2 rfl (pF 1) ?_
    refine dT 3 rfl pL ?_
    refine dT 4 rfl pM ?_
    obtain⟨z4,hz5,b6⟩:=t9 (xs:=fs) (n:=(m:Int)) (by omega) (by omega)
    refine dT 5 rfl (w8 (by kernel_rfl) rfl rfl b6 hz5) ?_
    refine dT 6 rfl (p6 (n:=2) (by kernel_rfl) (by kernel_rfl) rfl rfl) ?_
    refine dO 7 rfl (n9 5 10 false (N9 Tryz.func74) (RX ns vs z4.1 z4.2 (by omega) (by omega) (by omega) (by omega) (by(have e1:=j6 (f:=(fun(x:Int ×(List Int))=>x.2.length)) (l:=fs) (m:=m) (by assumption);(try dsimp only at e1);omega)) (by exact ho _ (J8 (by assumption)))) rfl (.cons rfl (.agg (.cons .t0 (.cons .t0 .nil))) (.cons rfl (.agg (.cons .t0 (.cons .t0 .nil))) .nil)) rfl rfl rfl) ?_
    refine c6 9 rfl (K9 rfl) ?_
    refine dO 8 rfl (n9 10 10 true (N9 Tryz.func35) (U7 ([]++rs) gs z4.1 (z4.2.map (W0 ns vs)) (by omega) (by(rw [List.length_map];have e1:=j6 (f:=(fun(x:Int ×(List Int))=>x.2.length)) (l:=fs) (m:=m) (by assumption);(try dsimp only at e1);omega))) rfl (.cons rfl (.agg (.cons .t0 (.cons .t0 .nil))) (.cons rfl (.agg (.cons .t0 (.cons .t0 .nil))) .nil)) rfl rfl rfl) ?_
    refine dO 9 rfl (oS 2) ?_
    refine dE ?_
    refine i9<|l9<|rM ?_
    refine rB ?_
    refine rA<|c9 ?_
    refine n8 ?_ (ih0 (m + 1,c4 gs (z4.1,(z4.2.map (W0 ns vs)))) (by(try dsimp only);omega) (by(try dsimp only);exact⟨by omega,by rw [i2];exact bW (f:=LZ ns vs) hz5⟩))
    exact⟨⟨rfl,⟨rfl,⟨rfl,⟨rfl,⟨rfl,⟨(i6 (s8 (by omega) (by omega))),trivial⟩⟩⟩⟩⟩⟩,⟨rfl,⟨rfl,⟨rfl,⟨rfl,trivial⟩⟩⟩⟩,rfl⟩
   ·
    have h3':=l8 h3
    refine R9 rfl<|w9<|rC 2 ?_
    refine d9 (n9 5 10 false (N9 Tryz.func28) (i5 ([]++rs) gs (by assumption) (by omega)) rfl (.cons rfl (.agg (.cons .t0 (.cons .t0 .nil))) .nil) rfl rfl rfl) ?_
    refine rS 2 ?_
    refine rA<|c9 ?_
    refine o9 7 rfl (K9 rfl) ?_
    refine o9 9 rfl (K9 rfl) ?_
    refine tk Tryz.func30 (r8 2 (.tmp rfl .nil)) ?_ <;>(try clear ih0)
    all_goals((have e8:=VS (rs:=rs) (fs:=fs) (ns:=ns) (vs:=vs) (by assumption) (by assumption);(have e9:=gJ i2 (by omega));(rw [e8.1,e8.2.1,e8.2.2,← e9];rfl)))
 ·
  have g1':=(P4 g1)
  refine x9 (nc g1) (fun _=>?_)
  refine x9 (nc g1) (fun _=>?_)
  refine d9 (M9 rfl rfl g1 rfl) ?_
  refine c9 ?_
  refine j9 rfl (fun _=>?_) (nc rfl)
  refine w9 ?_
  refine d9 (oD [(0,1),(1,1)] [.slice none 0 0,.slice none 0 0]) ?_
  refine rS 2 ?_
  refine rA<|c9 ?_
  refine I6 3 (b:=2) (o:=0) (et:=76) (sz:=3) true (d8 Z9 f9 a8) rfl rfl rfl ?_
  refine I6 4 (b:=2) (o:=1) (et:=57) (sz:=2) true (E9 f9 (B9 1 f9)) rfl rfl rfl ?_
  refine o9 3 rfl (K9 rfl) ?_
  refine o9 4 rfl (K9 rfl) ?_
  refine tk Tryz.func30 (r8 2 (.tmp rfl .nil)) ?_ <;>(try clear ih0)
  all_goals((have e8:=nO (rs:=rs) (fs:=fs) (ns:=ns) (vs:=vs) (by assumption);(rw [e8.1,e8.2.1,e8.2.2];rfl)))
theorem U1 (a0:List (Int ×(List Int)))(a1:List (Int ×(List Int)))(a2:Bool)(a3:Int)(a4:Int)(hs:l7 (fun(x:Int ×(List Int))=>x.2.length) a0 + l7 (fun(x:Int ×(List Int))=>x.2.length) a1≤1048576):Pu Tryz.prog 31 [.agg [.t none (.sl 2 (E9 f9 (B9 1 f9)) a0),.t none (.sl 2 (E9 f9 (B9 1 f9)) a1),.t none (.v (.bool a2)),.t none (.v (.int .i64 a3)),.t none (.v (.int .i64 a4))]] [(1,some (.row none 3 true 1 f9 (Y5 false (G9 (F9 a0)) (G9 (F9 a1)))))] 4 (.c (.own 1)):=by
 refine u6 Tryz.func31 fun w S=>?_
 have g0:=L8 (f:=(fun(x:Int ×(List Int))=>x.2.length)) (l:=a0);have g1:=L8 (f:=(fun(x:Int ×(List Int))=>x.2.length)) (l:=a1);have v0:=F7 (F9 a0);have v1:=H7 a0;have v2:=F7 (F9 a1);have v3:=H7 a1
 refine w9 ?_
 refine d9 (X9 0 rfl rfl rfl rfl) ?_
 refine rA<|o7 ?_
 refine d9 (C7 1 (e:=3) (sz:=1) (zs:=[.int .i64 0]) f9 rfl rfl (by kernel_rfl) rfl) ?_
 refine rA<|o7 ?_
 refine rF 0 ?_
 refine rL ?_
 refine d9 (n9 2 3 false (N9 Tryz.func75) (K5 a0 (by omega)) rfl (.cons rfl (.c .t0) .nil) rfl rfl rfl) ?_
 refine rA<|o7 ?_
 refine rF 1 ?_
 refine rL ?_
 refine d9 (n9 3 4 false (N9 Tryz.func75) (K5 a1 (by omega)) rfl (.cons rfl (.c .t0) .nil) rfl rfl rfl) ?_
 refine rA<|c9<|k9<|w9 ?_
 refine rA<|c9<|r9 ?_
 refine L9 (fun m=>⟨[(2,some (.c (.t none (.v (.slice none 0 0))))),(3,some (.c (.own 1))),(4,some (.c (.own 2))),(5,some (.c (.own 3))),(6,some (.c (.t none (.v (.int .i64 ((m:Int)))))))],[(0,some (.box [.t none (.sl 2 (E9 f9 (B9 1 f9)) a0),.t none (.sl 2 (E9 f9 (B9 1 f9)) a1),.t none (.v (.bool a2)),.t none (.v (.int .i64 a3)),.t none (.v (.int .i64 a4))])),(1,some (.row none 3 true 1 f9 (((G9 (F9 a1)).take m).filter (fun x=>kZ (G9 (F9 a0)) x == false)))),(2,some (.row none 3 true 1 f9 (G9 (F9 a0)))),(3,some (.row none 3 true 1 f9 (G9 (F9 a1))))],4⟩:Nat→St) (fun m=>m≤(G9 (F9 a1)).length) (fun m=>(G9 (F9 a1)).length - m) 0 ⟨⟨rfl,⟨rfl,⟨rfl,⟨rfl,⟨rfl,trivial⟩⟩⟩⟩⟩,⟨rfl,⟨rfl,⟨rfl,⟨rfl,trivial⟩⟩⟩⟩,rfl⟩ (by exact Nat.zero_le _) ?_
 rintro m hI ih0
 try dsimp only at hI ih0
 have i1:=hI;have fl:=bP (p:=(fun x=>kZ (G9 (F9 a0)) x == false)) (l:=G9 (F9 a1)) (m:=m)
 refine k9<|w9<|rM ?_
 refine rM ?_
 refine d9 (M7 rfl rfl rfl rfl) ?_
 refine rB<|c9 ?_
 refine j9 rfl (fun h1=>?_) (fun h1=>?_)
 ·
  have h1':=j8 h1
  refine m9<|k9<|r9<|w9<|rM ?_
  refine rM ?_
  refine rM ?_
  obtain⟨z2,hz3,b4⟩:=t9 (xs:=G9 (F9 a1)) (n:=(m:Int)) (by omega) (by omega)
  refine d9 (t8 rfl (by kernel_rfl) rfl rfl rfl b4 (f8 b4 hz3)) ?_
  refine d9 (p8 rfl (by kernel_rfl) rfl rfl rfl hz3) ?_
  refine d9 (n9 4 4 false (N9 Tryz.func76) (N1 (G9 (F9 a0)) z2 (by omega)) rfl (.cons rfl (.c (.own rfl)) (.cons rfl (.c .t0) .nil)) rfl rfl rfl) ?_
  refine d9 (Q8 rfl rfl) ?_
  refine c9 ?_
  refine j9 rfl (fun h5=>?_) (fun h5=>?_)
  ·
   have h5':=(P4 h5)
   refine l9<|rM ?_
   refine rM ?_
   refine rM ?_
   refine d9 (t8 rfl (by kernel_rfl) rfl rfl rfl b4 (f8 b4 hz3)) ?_
   refine d9 (p8 rfl (by kernel_rfl) rfl rfl rfl hz3) ?_
   refine d9 (G8 4 (e:=3) (sz:=1) (zs:=[.int .i64 0]) rfl rfl (by kernel_rfl) rfl rfl rfl rfl rfl) ?_
   refine d9 (i8 1 (e:=3) (sz:=1) (by':=8) z2 rfl (by kernel_rfl) rfl rfl rfl rfl rfl rfl (.cons .sc .nil) rfl (by omega) (by omega)) ?_
   refine rA<|c9<|i9<|l9 ?_
   refine rM ?_
   refine rB ?_
   refine rA<|c9 ?_
   refine n8 ?_ (ih0 (m + 1) (by(try dsimp only);omega) (by(try dsimp only);omega))
   exact⟨⟨rfl,⟨rfl,⟨rfl,⟨rfl,⟨(i6 (s8 (by omega) (by omega))),trivial⟩⟩⟩⟩⟩,⟨rfl,⟨(E7 (by(rw [TW (by assumption) (by simp_all)];done))),⟨rfl,⟨rfl,trivial⟩⟩⟩⟩,rfl⟩
  ·
   have h5':=(O4 h5)
   refine m9<|i9<|l9<|rM ?_
   refine rB ?_
   refine rA<|c9 ?_
   refine n8 ?_ (ih0 (m + 1) (by(try dsimp only);omega) (by(try dsimp only);omega))
   exact⟨⟨rfl,⟨rfl,⟨rfl,⟨rfl,⟨(i6 (s8 (by omega) (by omega))),trivial⟩⟩⟩⟩⟩,⟨rfl,⟨(E7 (by(rw [oV (by assumption) (by simp_all)];done))),⟨rfl,⟨rfl,trivial⟩⟩⟩⟩,rfl⟩
 ·
  have h1':=l8 h1
  refine R9 rfl<|w9<|rM ?_
  refine rA<|c9 ?_
  refine tk Tryz.func31 (.tmp rfl .nil) ?_ (hL:=⟨E7 ?_,trivial⟩) <;>(try clear ih0)
  all_goals first | rfl | ((rw [AQ (by omega)];rfl))
theorem FZ (rs:V9)(l:p9)(hl:l7 (fun(x:Int ×(List Int))=>x.2.length) l≤1048576)(ho:∀z∈l,∀x∈z.2,s7 x):Pu Tryz.prog 77 [.agg [.t none (.sl 3 (d8 Z9 f9 a8) rs),.t none (.sl 2 (E9 f9 (B9 1 f9)) l)]] [(1,some (.row none 3 true 1 f9 (G9 (m8 (U9 l)))))] 2 (.c (.own 1)):=by
 refine u6 Tryz.func77 fun w S=>?_
 have gl:=L8 (f:=(fun(x:Int ×(List Int))=>x.2.length)) (l:=l);have gv:=KZ l
 refine w9 ?_
 refine d9 (X9 0 rfl rfl rfl rfl) ?_
 refine rA<|o7 ?_
 refine d9 (C7 1 (e:=3) (sz:=1) (zs:=[.int .i64 0]) f9 rfl rfl (by kernel_rfl) rfl) ?_
 refine rA<|c9<|k9<|w9 ?_
 refine rA<|c9<|r9 ?_
 refine L9 (fun m=>⟨[(1,some (.c (.ptr 0 0))),(2,some (.c (.t none (.v (.slice none 0 0))))),(3,some (.c (.own 1))),(4,some (.c (.t none (.v (.int .i64 ((m:Int)))))))],[(0,some (.box [.t none (.sl 3 (d8 Z9 f9 a8) rs),.t none (.sl 2 (E9 f9 (B9 1 f9)) l)])),(1,some (.row none 3 true 1 f9 (G9 (m8 (U9 (l.take m))))))],2⟩:Nat→St) (fun m=>m≤l.length) (fun m=>l.length - m) 0 ⟨⟨rfl,⟨rfl,⟨rfl,⟨rfl,trivial⟩⟩⟩⟩,⟨rfl,⟨rfl,trivial⟩⟩,rfl⟩ (by exact Nat.zero_le _) ?_
 rintro m hI ih0
 try dsimp only at hI ih0
 have i1:=hI
 refine k9<|w9<|rM ?_
 refine rF 1 ?_
 refine rL ?_
 refine d9 (S9 rfl rfl rfl) ?_
 refine rB<|c9 ?_
 refine j9 rfl (fun h1=>?_) (fun h1=>?_)
 ·
  have h1':=j8 h1
  refine m9<|k9<|r9<|w9<|rF 1 ?_
  refine rL ?_
  refine rM ?_
  obtain⟨z2,hz3,b4⟩:=t9 (xs:=l) (n:=(m:Int)) (by omega) (by omega)
  refine d9 (P9 rfl (by kernel_rfl) rfl rfl b4 hz3) ?_
  refine d9 (A6 rfl (n:=2) (by kernel_rfl) (by kernel_rfl) rfl rfl) ?_
  refine d9 (n9 2 4 false (N9 Tryz.func115) (n3 z2.1 z2.2 (by(have e1:=j6 (f:=(fun(x:Int ×(List Int))=>x.2.length)) (l:=l) (m:=m) (by assumption);(try dsimp only at e1);omega)) (by exact ho _ (J8 (by assumption)))) rfl (.cons rfl (.agg (.cons .t0 (.cons .t0 .nil))) .nil) rfl rfl rfl) ?_
  refine rA<|o7 ?_
  refine rA<|c9<|r9 ?_
  refine L9 (fun n=>⟨[(1,some (.c (.ptr 0 0))),(2,some (.c (.t none (.v (.slice none 0 0))))),(3,some (.c (.own 1))),(4,some (.c (.t none (.v (.int .i64 ((m:Int))))))),(5,some (.c (.own 3))),(6,some (.c (.t none (.v (.int .i64 ((n:Int)))))))],[(0,some (.box [.t none (.sl 3 (d8 Z9 f9 a8) rs),.t none (.sl 2 (E9 f9 (B9 1 f9)) l)])),(1,some (.row none 3 true 1 f9 (G9 (m8 (U9 (l.take m))++(G9 (m8 z2.2)).take n)))),(3,some (.row none 3 true 1 f9 (G9 (m8 z2.2))))],4⟩:Nat→St) (fun n=>n≤(G9 (m8 z2.2)).length) (fun n=>(G9 (m8 z2.2)).length - n) 0 ⟨⟨rfl,⟨rfl,⟨rfl,⟨rfl,⟨rfl,⟨rfl,trivial⟩⟩⟩⟩⟩⟩,⟨rfl,⟨(E7 (by rw [List.take_zero,List.append_nil])),⟨rfl,trivial⟩⟩⟩,rfl⟩ (by exact Nat.zero_le _) ?_
  rintro n hI ih1
  try dsimp only at hI ih1
  have j1:=hI;have vp:=aW (m:=m) hz3;have vq:=EY (U9 (l.take m));have vr:=EY z2.2;have vs:=F7 (m8 z2.2);have vt:=F7 (m8 (U9 (l.take m))++(G9 (m8 z2.2)).take n);rw [List.length_append,List.length_take] at vt
  refine k9<|w9<|rM ?_
  refine rM ?_
  refine d9 (M7 rfl rfl rfl rfl) ?_
  refine rB<|c9 ?_
  refine j9 rfl (fun h5=>?_) (fun h5=>?_)
  ·
   have h5':=j8 h5
   refine m9<|k9<|r9<|l9<|rM ?_
   refine rM ?_
   refine rM ?_
   obtain⟨z6,hz7,b8⟩:=t9 (xs:=G9 (m8 z2.2)) (n:=(n:Int)) (by omega) (by omega)
   refine d9 (t8 rfl (by kernel_rfl) rfl rfl rfl b8 (f8 b8 hz7)) ?_
   refine d9 (p8 rfl (by kernel_rfl) rfl rfl rfl hz7) ?_
   refine d9 (kX 1 (l':=U3 (G9 (m8 (U9 (l.take m))++(G9 (m8 z2.2)).take n)) z6) (N9 Tryz.func118) (fun U=>HZ U  (G9 (m8 (U9 (l.take m))++(G9 (m8 z2.2)).take n)) z6 (by omega)) rfl rfl (.cons rfl (.own rfl) (.cons rfl .t0 .nil))) ?_
   refine rA<|c9<|i9<|l9 ?_
   refine rM ?_
   refine rB ?_
   refine rA<|c9 ?_
   refine n8 ?_ (ih1 (n + 1) (by(try dsimp only);omega) (by(try dsimp only);omega))
   exact⟨⟨rfl,⟨rfl,⟨rfl,⟨rfl,⟨rfl,⟨(i6 (s8 (by omega) (by omega))),trivial⟩⟩⟩⟩⟩⟩,⟨rfl,⟨(E7 (by rw [YJ (n:=n) _ hz7,nV])),⟨rfl,trivial⟩⟩⟩,rfl⟩
  ·
   have h5':=l8 h5
   refine R9 rfl<|i9<|l9<|rM ?_
   refine rB ?_
   refine rA<|c9 ?_
   refine n8 ?_ (ih0 (m + 1) (by(try dsimp only);omega) (by(try dsimp only);omega))
   exact⟨⟨rfl,⟨rfl,⟨rfl,⟨(i6 (s8 (by omega) (by omega))),trivial⟩⟩⟩⟩,⟨rfl,⟨(E7 (by rw [JX (m:=m) hz3,EM,List.take_of_length_le (i:=n) (l:=G9 (m8 z2.2)) (by omega),GK])),trivial⟩⟩,rfl⟩
 ·
  have h1':=l8 h1
  refine R9 rfl<|w9<|rM ?_
  refine rA<|c9 ?_
  refine tk Tryz.func77 (.tmp rfl .nil) ?_ (hL:=⟨E7 ?_,trivial⟩) <;>(try clear ih0) <;>(try clear ih1)
  all_goals first | rfl | ((rw [oX (by omega)]))
theorem OV (rs:V9)(l:p9)(hl:l7 (fun(x:Int ×(List Int))=>x.2.length) l≤1048576)(ho:∀z∈l,∀x∈z.2,s7 x):Pu Tryz.prog 32 [.agg [.t none (.sl 3 (d8 Z9 f9 a8) rs),.t none (.sl 2 (E9 f9 (B9 1 f9)) l)]] [] 0 (.c (.t none (.v (.int .i64 (W6 (G9 (m8 (U9 l)))))))):=by
 refine u6 Tryz.func32 fun w S=>?_
 have gl:=L8 (f:=(fun(x:Int ×(List Int))=>x.2.length)) (l:=l);have gv:=KZ l;have q1:=F7 (m8 (U9 l));have q2:=EY (U9 l)
 refine w9 ?_
 refine d9 (X9 0 rfl rfl rfl rfl) ?_
 refine rA<|o7 ?_
 refine rC 2 ?_
 refine d9 (n9 1 3 false (N9 Tryz.func77) (FZ rs l (by omega) (by omega)) rfl (.cons rfl (.agg (.cons .t0 (.cons .t0 .nil))) .nil) rfl rfl rfl) ?_
 refine rA<|c9<|k9<|w9 ?_
 refine rM ?_
 refine d9 (M7 rfl rfl rfl rfl) ?_
 refine rB<|c9 ?_
 refine j9 rfl (fun h1=>?_) (fun h1=>?_)
 ·
  have h1':=j8 h1
  refine w9<|rA<|c9 ?_
  refine tk Tryz.func32 (.tmp rfl .nil) ?_
  all_goals(refine qX ?_;(rw [qU (by omega)];done))
 ·
  have h1':=l8 h1
  refine m9<|w9<|rM ?_
  refine rM ?_
  refine d9 (M7 rfl rfl rfl rfl) ?_
  refine rB ?_
  obtain⟨z2,hz3,b4⟩:=t9 (xs:=G9 (m8 (U9 l))) (n:=IntKind.i64.wrap (((G9 (m8 (U9 l))).length:Int) - 1)) (by(simp only [IntKind.wrap_i64];omega)) (by(simp only [IntKind.wrap_i64];omega))
  refine d9 (t8 rfl (by kernel_rfl) rfl rfl rfl b4 (f8 b4 hz3)) ?_
  refine d9 (p8 rfl (by kernel_rfl) rfl rfl rfl hz3) ?_
  refine rB ?_
  refine rA<|c9 ?_
  refine tk Tryz.func32 (.tmp rfl .nil) ?_
  all_goals(refine qX ?_;(rw [MQ (by assumption) (by simp only [IntKind.wrap_i64];omega)];done))
theorem zX (rs:V9)(fs:p9)(a0:List (Int ×(List Int)))(a1:List (Int ×(List Int)))(a2:Bool)(a3:Int)(a4:Int)(b:List Int)(hrs:rs.length≤1048576)(hsz:l7 (fun(x:Int ×(List Int))=>x.2.length) fs +(l7 (fun(x:Int ×(List Int))=>x.2.length) a0 + l7 (fun(x:Int ×(List Int))=>x.2.length) a1)≤1048576)(ho:∀z∈fs,∀x∈z.2,s7 x)(hoa:∀z∈a0,∀x∈z.2,s7 x)(hoh:∀z∈a1,∀x∈z.2,s7 x)(hbl:b.length≤1048576)(hob:∀x∈b,s7 x):Pu Tryz.prog 7 [.agg [.t none (.sl 3 (d8 Z9 f9 a8) rs),.t none (.sl 2 (E9 f9 (B9 1 f9)) fs)],.agg [.t none (.sl 2 (E9 f9 (B9 1 f9)) a0),.t none (.sl 2 (E9 f9 (B9 1 f9)) a1),.t none (.v (.bool a2)),.t none (.v (.int .i64 a3)),.t none (.v (.int .i64 a4))],.c (.t none (.sl 1 f9 b))] [] 0 (.tup [(true,[.t none (.sl 3 (d8 Z9 f9 a8) (M4 rs fs a0 a1 a2 a3 a4 b)),.t none (.sl 2 (E9 f9 (B9 1 f9)) (E5 rs fs a0 a1 a2 a3 a4 b))]),(false,[.t none (.v (.int .i64 (P0 rs fs a0 a1 a2 a3 a4 b)))])]):=by
 refine u6 Tryz.func7 fun w S=>?_
 have g0:=L8 (f:=(fun(x:Int ×(List Int))=>x.2.length)) (l:=a0);have g1:=L8 (f:=(fun(x:Int ×(List Int))=>x.2.length)) (l:=a1);have g2:=L8 (f:=(fun(x:Int ×(List Int))=>x.2.length)) (l:=fs);have v1:=xQ false (G9 (F9 a0)) (G9 (F9 a1));have v2:=F7 (F9 a1);have v3:=H7 a1;have nb:0≤W6 (G9 (m8 (U9 fs)))∧W6 (G9 (m8 (U9 fs)))≤40:=WS fs;have X5:R8 rs fs a0 a1 a2 a3 a4 b=true→a2=false→(Y5 false (G9 (F9 a0)) (G9 (F9 a1))).length≤5:=aN;have XR:R8 rs fs a0 a1 a2 a3 a4 b=true→a2=false→∀(k:Nat) x,(Y5 false (G9 (F9 a0)) (G9 (F9 a1)))[k]? =some x→0≤x∧x < 5:=(fun h h2 k x hx=>sX h h2 (J8 hx));have XL:R8 rs fs a0 a1 a2 a3 a4 b=true→b.length=5:=(fun h=>(zY (Z7 h)).2.2);have oW:∀x∈w3 fs a0 a1 b,s7 x:=ZU _ _ _ hob nb.1 (by(have e7:(tW a0 a1).length=(Y5 false (G9 (F9 a0)) (G9 (F9 a1))).length:=rfl);have e8:GT fs≤40:=nb.2;omega)
 refine w9 ?_
 refine d9 (X9 0 rfl rfl rfl rfl) ?_
 refine d9 (X9 1 rfl rfl rfl rfl) ?_
 refine d9 (I9 2 (zs:=[.slice none 0 0,.slice none 0 0]) rfl rfl (by kernel_rfl) rfl) ?_
 refine rA<|o7 ?_
 refine rC 2 ?_
 refine d9 (n9 3 8 false (N9 Tryz.func28) (i5 rs fs (by omega) (by omega)) rfl (.cons rfl (.agg (.cons .t0 (.cons .t0 .nil))) .nil) rfl rfl rfl) ?_
 refine d9 (I9 8 (zs:=[.slice none 0 0,.slice none 0 0]) rfl rfl (by kernel_rfl) rfl) ?_
 refine rS 2<|c9<|k9<|w9 ?_
 refine rC 2 ?_
 refine rC 5 ?_
 refine rM ?_
 refine d9 (n9 9 9 false (N9 Tryz.func9) (R5 rs fs a0 a1 a2 a3 a4 b (by omega) (by omega) (by omega) (by omega) (by omega) (by omega) (by omega)) rfl (.cons rfl (.agg (.cons .t0 (.cons .t0 .nil))) (.cons rfl (.agg (.cons .t0 (.cons .t0 (.cons .t0 (.cons .t0 (.cons .t0 .nil)))))) (.cons rfl (.c .t0) .nil))) rfl rfl rfl) ?_
 refine d9 (Q8 rfl rfl) ?_
 refine c9 ?_
 refine j9 rfl (fun h1=>?_) (fun h1=>?_)
 ·
  have h1':=(P4 h1)
  refine w9<|rC 2 ?_
  refine rS 2 ?_
  refine rA<|c9 ?_
  refine o9 5 rfl (K9 rfl) ?_
  refine o9 7 rfl (K9 rfl) ?_
  refine tk Tryz.func7 (r8 2 (.tmp rfl .nil)) ?_ <;>(try clear ih0) <;>(try clear ih1)
  all_goals((have e8:=gN (rs:=rs) (fs:=fs) (a0:=a0) (a1:=a1) (a2:=a2) (a3:=a3) (a4:=a4) (v:=b) (by assumption);(rw [e8.1,e8.2.1,e8.2.2];rfl)))
 ·
  have h1':=(O4 h1)
  refine m9<|k9<|w9<|rF 2 ?_
  refine rL<|c9 ?_
  refine j9 rfl (fun h2=>?_) (fun h2=>?_)
  ·
   have h2':=h2
   refine w9<|rM ?_
   refine rF 3 ?_
   refine rL ?_
   obtain⟨z3,hz4,b5⟩:=t9 (xs:=b) (n:=a3) (by exact(B5 (Z7 (by assumption)) (by assumption)).1.1) (by exact(B5 (Z7 (by assumption)) (by assumption)).1.2)
   refine d9 (P9 rfl (by kernel_rfl) rfl rfl b5 hz4) ?_
   refine d9 (c8 rfl (by kernel_rfl) rfl rfl) ?_
   refine rA<|o7 ?_
   refine rM ?_
   refine rF 4 ?_
   refine rL ?_
   obtain⟨z6,hz7,b8⟩:=t9 (xs:=b) (n:=a4) (by exact(B5 (Z7 (by assumption)) (by assumption)).2.1) (by exact(B5 (Z7 (by assumption)) (by assumption)).2.2)
   refine d9 (P9 rfl (by kernel_rfl) rfl rfl b8 hz7) ?_
   refine d9 (c8 rfl (by kernel_rfl) rfl rfl) ?_
   refine rA<|c9<|k9<|w9 ?_
   refine rM ?_
   refine rB ?_
   refine rM ?_
   refine x9 (fun g9=>?_) (fun g9=>?_)
   ·
    have g9':=j8 g9
    refine rM ?_
    refine x9 (fun _=>?_) (nc g9)
    refine rB ?_
    refine d9 (M9 rfl rfl g9 rfl) ?_
    refine c9 ?_
    refine j9 rfl (fun h10=>?_) (fun h10=>?_)
    ·
     have h10':=j8 h10
     refine w9<|rC 2 ?_
     refine rS 2 ?_
     refine rA<|c9 ?_
     refine o9 5 rfl (K9 rfl) ?_
     refine o9 7 rfl (K9 rfl) ?_
     refine tk Tryz.func7 (r8 2 (.tmp rfl .nil)) ?_ <;>(try clear ih0) <;>(try clear ih1)
     all_goals((have e8:=mR (rs:=rs) (fs:=fs) (a0:=a0) (a1:=a1) (a2:=a2) (a3:=a3) (a4:=a4) (v:=b) (by assumption) (by assumption) hz4 hz7;(have e7:=bJ (rs:=rs) (fs:=fs) (a:=z3) (b:=z6) (by omega) (by omega);(rw [e8.1,e8.2.1,e8.2.2,e7.1,e7.2.1,e7.2.2];rfl))))
    ·
     have h10':=l8 h10
     refine m9<|w9<|rM ?_
     refine rM ?_
     refine d9 (rN rfl rfl rfl) ?_
     refine d9 (n9 9 9 false (N9 Tryz.func29) (y4 (if z6 < z3 then z6 else z3) (by(have o3:=hob _ (List.mem_of_getElem? (l:=b) (i:=a3.toNat) (by assumption));have o4:=hob _ (List.mem_of_getElem? (l:=b) (i:=a4.toNat) (by assumption));unfold s7 at o3 o4;omega)) (by omega)) rfl (.cons rfl (.c .t0) .nil) rfl rfl rfl) ?_
     refine rM ?_
     refine d9 (O9 rfl rfl rfl rfl) ?_
     refine d9 (O9 rfl rfl rfl rfl) ?_
     refine rA ?_
     refine rA<|o7 ?_
     refine rM ?_
     refine d9 (N4 9 (e:=3) (sz:=1) (zs:=[.int .i64 0]) (enc:=f9) (if -40≤(if z6 < z3 then z6 else z3)∧(if z6 < z3 then z6 else z3)≤ -1 then -1 - (if z6 < z3 then z6 else z3) else 0) rfl rfl (by kernel_rfl) rfl rfl rfl rfl rfl rfl (.cons .sc .nil)) ?_
     refine rM ?_
     refine rM ?_
     refine d9 (hN rfl rfl rfl) ?_
     refine d9 (N4 10 (e:=3) (sz:=1) (zs:=[.int .i64 0]) (enc:=f9) (if z3 < z6 then z6 else z3) rfl rfl (by kernel_rfl) rfl rfl rfl rfl rfl rfl (.cons .sc .nil)) ?_
     refine d9 (oD [(0,1),(1,1)] [.slice none 0 0,.slice none 0 0]) ?_
     refine rC 2 ?_
     refine FY 9 rfl (K9 rfl) ?_
     refine FY 10 rfl (K9 rfl) ?_
     refine d9 (n9 11 11 true (N9 Tryz.func30) (K3 ([if -40≤(if z6 < z3 then z6 else z3)∧(if z6 < z3 then z6 else z3)≤ -1 then -1 - (if z6 < z3 then z6 else z3) else 0]) ([if z3 < z6 then z6 else z3]) rs fs (by(simp only [List.length_cons,List.length_nil];omega)) (by(simp only [List.length_cons,List.length_nil];omega)) (by(have o3:=hob _ (List.mem_of_getElem? (l:=b) (i:=a3.toNat) (by assumption));have o4:=hob _ (List.mem_of_getElem? (l:=b) (i:=a4.toNat) (by assumption));unfold s7 at o3 o4;(exact UV (by unfold s7;omega)))) (by(have o3:=hob _ (List.mem_of_getElem? (l:=b) (i:=a3.toNat) (by assumption));have o4:=hob _ (List.mem_of_getElem? (l:=b) (i:=a4.toNat) (by assumption));unfold s7 at o3 o4;(exact UV (by unfold s7;omega)))) (by omega) (by omega) (by omega)) rfl (.cons rfl (.agg (.cons .t0 (.cons .t0 .nil))) (.cons rfl (.agg (.cons .t0 (.cons .t0 .nil))) .nil)) rfl rfl rfl) ?_
     refine rM ?_
     refine d9 (O9 rfl rfl rfl rfl) ?_
     refine d9 (O9 rfl rfl rfl rfl) ?_
     refine d9 (I9 11 (zs:=[.slice none 0 0,.slice none 0 0]) rfl rfl (by kernel_rfl) rfl) ?_
     refine rS 2 ?_
     refine rA<|o7 ?_
     refine rC 2 ?_
     refine rS 2 ?_
     refine rA<|c9 ?_
     refine tk Tryz.func7 (r8 2 (.tmp rfl .nil)) ?_ <;>(try clear ih0) <;>(try clear ih1)
     all_goals((have e8:=mR (rs:=rs) (fs:=fs) (a0:=a0) (a1:=a1) (a2:=a2) (a3:=a3) (a4:=a4) (v:=b) (by assumption) (by assumption) hz4 hz7;(have e7:=bU (rs:=rs) (fs:=fs) (a:=z3) (b:=z6) (by omega);(rw [e8.1,e8.2.1,e8.2.2,e7.1,e7.2.1,e7.2.2];rfl))))
   ·
    have g9':=l8 g9
    refine x9 (C9 g9) (fun _=>?_)
    refine d9 (H9 rfl rfl g9 rfl) ?_
    refine c9 ?_
    refine j9 rfl (C9 rfl) (fun _=>?_)
    refine m9<|w9<|rM ?_
    refine rM ?_
    refine d9 (rN rfl rfl rfl) ?_
    refine d9 (n9 9 9 false (N9 Tryz.func29) (y4 (if z6 < z3 then z6 else z3) (by(have o3:=hob _ (List.mem_of_getElem? (l:=b) (i:=a3.toNat) (by assumption));have o4:=hob _ (List.mem_of_getElem? (l:=b) (i:=a4.toNat) (by assumption));unfold s7 at o3 o4;omega)) (by omega)) rfl (.cons rfl (.c .t0) .nil) rfl rfl rfl) ?_
    refine rM ?_
    refine d9 (O9 rfl rfl rfl rfl) ?_
    refine d9 (O9 rfl rfl rfl rfl) ?_
    refine rA ?_
    refine rA<|o7 ?_
    refine rM ?_
    refine d9 (N4 9 (e:=3) (sz:=1) (zs:=[.int .i64 0]) (enc:=f9) (if -40≤(if z6 < z3 then z6 else z3)∧(if z6 < z3 then z6 else z3)≤ -1 then -1 - (if z6 < z3 then z6 else z3) else 0) rfl rfl (by kernel_rfl) rfl rfl rfl rfl rfl rfl (.cons .sc .nil)) ?_
    refine rM ?_
    refine rM ?_
    refine d9 (hN rfl rfl rfl) ?_
    refine d9 (N4 10 (e:=3) (sz:=1) (zs:=[.int .i64 0]) (enc:=f9) (if z3 < z6 then z6 else z3) rfl rfl (by kernel_rfl) rfl rfl rfl rfl rfl rfl (.cons .sc .nil)) ?_
    refine d9 (oD [(0,1),(1,1)] [.slice none 0 0,.slice none 0 0]) ?_
    refine rC 2 ?_
    refine FY 9 rfl (K9 rfl) ?_
    refine FY 10 rfl (K9 rfl) ?_
    refine d9 (n9 11 11 true (N9 Tryz.func30) (K3 ([if -40≤(if z6 < z3 then z6 else z3)∧(if z6 < z3 then z6 else z3)≤ -1 then -1 - (if z6 < z3 then z6 else z3) else 0]) ([if z3 < z6 then z6 else z3]) rs fs (by(simp only [List.length_cons,List.length_nil];omega)) (by(simp only [List.length_cons,List.length_nil];omega)) (by(have o3:=hob _ (List.mem_of_getElem? (l:=b) (i:=a3.toNat) (by assumption));have o4:=hob _ (List.mem_of_getElem? (l:=b) (i:=a4.toNat) (by assumption));unfold s7 at o3 o4;(exact UV (by unfold s7;omega)))) (by(have o3:=hob _ (List.mem_of_getElem? (l:=b) (i:=a3.toNat) (by assumption));have o4:=hob _ (List.mem_of_getElem? (l:=b) (i:=a4.toNat) (by assumption));unfold s7 at o3 o4;(exact UV (by unfold s7;omega)))) (by omega) (by omega) (by omega)) rfl (.cons rfl (.agg (.cons .t0 (.cons .t0 .nil))) (.cons rfl (.agg (.cons .t0 (.cons .t0 .nil))) .nil)) rfl rfl rfl) ?_
    refine rM ?_
    refine d9 (O9 rfl rfl rfl rfl) ?_
    refine d9 (O9 rfl rfl rfl rfl) ?_
    refine d9 (I9 11 (zs:=[.slice none 0 0,.slice none 0 0]) rfl rfl (by kernel_rfl) rfl) ?_
    refine rS 2 ?_
    refine rA<|o7 ?_
    refine rC 2 ?_
    refine rS 2 ?_
    refine rA<|c9 ?_
    refine tk Tryz.func7 (r8 2 (.tmp rfl .nil)) ?_ <;>(try clear ih0) <;>(try clear ih1)
    all_goals((have e8:=mR (rs:=rs) (fs:=fs) (a0:=a0) (a1:=a1) (a2:=a2) (a3:=a3) (a4:=a4) (v:=b) (by assumption) (by assumption) hz4 hz7;(have e7:=bU (rs:=rs) (fs:=fs) (a:=z3) (b:=z6) (by omega);(rw [e8.1,e8.2.1,e8.2.2,e7.1,e7.2.1,e7.2.2];rfl))))
  ·
   have h2':=h2
   refine m9<|w9 ?_
   refine d9 (C7 9 (e:=3) (sz:=1) (zs:=[.int .i64 0]) f9 rfl rfl (by kernel_rfl) rfl) ?_
   refine rM ?_
   refine d9 (a7 9 (e:=3) (sz:=1) (by':=8) rfl (by kernel_rfl) rfl rfl rfl rfl (fun _ _=>⟨_,rfl⟩) (by(simp only [List.length_cons,List.length_nil];omega)) (by(simp only [List.length_cons,List.length_nil];omega))) ?_
   refine rA<|o7 ?_
   refine rC 5 ?_
   refine d9 (n9 10 14 false (N9 Tryz.func31) (U1 a0 a1 a2 a3 a4 (by omega)) rfl (.cons rfl (.agg (.cons .t0 (.cons .t0 (.cons .t0 (.cons .t0 (.cons .t0 .nil)))))) .nil) rfl rfl rfl) ?_
   refine rA<|c9<|k9<|w9 ?_
   refine rA<|c9<|r9 ?_
   refine L9 (fun m=>⟨[(3,some (.c (.ptr 0 0))),(4,some (.c (.ptr 1 0))),(6,some (.c (.ptr 2 0))),(8,some (.c (.ptr 8 0))),(15,some (.c (.own 9))),(16,some (.c (.own 11))),(17,some (.c (.t none (.v (.int .i64 ((m:Int)))))))],[(0,some (.box [.t none (.sl 3 (d8 Z9 f9 a8) rs),.t none (.sl 2 (E9 f9 (B9 1 f9)) fs)])),(1,some (.box [.t none (.sl 2 (E9 f9 (B9 1 f9)) a0),.t none (.sl 2 (E9 f9 (B9 1 f9)) a1),.t none (.v (.bool a2)),.t none (.v (.int .i64 a3)),.t none (.v (.int .i64 a4))])),(2,some (.box [.t none (.v (.slice none 0 0)),.t none (.v (.slice none 0 0))])),(5,some (.row none 76 true 3 (d8 Z9 f9 a8) rs)),(7,some (.row none 57 true 2 (E9 f9 (B9 1 f9)) fs)),(8,some (.box [.own 5,.own 7])),(9,some (.row none 3 true 1 f9 (K4 b ((Y5 false (G9 (F9 a0)) (G9 (F9 a1))).take m) (W6 (G9 (m8 (U9 fs))))))),(11,some (.row none 3 true 1 f9 (Y5 false (G9 (F9 a0)) (G9 (F9 a1)))))],14⟩:Nat→St) (fun m=>m≤(Y5 false (G9 (F9 a0)) (G9 (F9 a1))).length∧W6 (G9 (m8 (U9 fs))) +(m:Int)≤40) (fun m=>(Y5 false (G9 (F9 a0)) (G9 (F9 a1))).length - m) 0 ⟨⟨rfl,⟨rfl,⟨rfl,⟨rfl,⟨rfl,⟨rfl,⟨rfl,trivial⟩⟩⟩⟩⟩⟩⟩,⟨rfl,⟨rfl,⟨rfl,⟨rfl,⟨rfl,⟨rfl,⟨rfl,⟨rfl,trivial⟩⟩⟩⟩⟩⟩⟩⟩,rfl⟩ (by exact⟨Nat.zero_le _,by omega⟩) ?_
   rintro m hI ih0
   try dsimp only at hI ih0
   obtain⟨i1,i3⟩:=hI;have ea:R8 rs fs a0 a1 a2 a3 a4 b=true:=(by assumption);have eb:a2=false:=(by assumption);have e5:=X5 ea eb;have eL:=XL ea;have eR:=XR ea eb
   refine k9<|w9<|rM ?_
   refine rM ?_
   refine d9 (M7 rfl rfl rfl rfl) ?_
   refine rB<|c9 ?_
   refine j9 rfl (fun h11=>?_) (fun h11=>?_)
   ·
    have h11':=j8 h11
    refine m9<|k9<|r9<|w9<|rC 2 ?_
    refine d9 (n9 14 14 false (N9 Tryz.func32) (OV rs fs (by omega) (by omega)) rfl (.cons rfl (.agg (.cons .t0 (.cons .t0 .nil))) .nil) rfl rfl rfl) ?_
    refine rM ?_
    refine rB ?_
    refine rA<|c9<|k9<|w9 ?_
    refine rM ?_
    refine rB<|c9 ?_
    refine j9 rfl (fun h12=>?_) (fun h12=>?_)
    ·
     have h12':=j8 h12
     refine w9<|rC 2 ?_
     refine rS 2 ?_
     refine rA<|c9 ?_
     refine o9 5 rfl (K9 rfl) ?_
     refine o9 7 rfl (K9 rfl) ?_
     refine tk Tryz.func7 (r8 2 (.tmp rfl .nil)) ?_ <;>(try clear ih0) <;>(try clear ih1)
     all_goals((have en:(tW a0 a1).length=(Y5 false (G9 (F9 a0)) (G9 (F9 a1))).length:=rfl;have eN:GT fs=W6 (G9 (m8 (U9 fs))):=rfl;have e8:=lW (rs:=rs) (fs:=fs) (a0:=a0) (a1:=a1) (a2:=a2) (a3:=a3) (a4:=a4) (v:=b) ea eb (RO (by(try simp only [IntKind.wrap_i64] at *);omega));(rw [e8.1,e8.2.1,e8.2.2];rfl)))
    ·
     have h12':=l8 h12
     refine m9 ?_
     refine tD (fun i=>!(Nat.beq i 8)) ?_
     refine dT 0 rfl pM ?_
     refine dT 1 rfl pM ?_
     refine dT 2 rfl pM ?_
     obtain⟨z13,hz14,b15⟩:=t9 (xs:=Y5 false (G9 (F9 a0)) (G9 (F9 a1))) (n:=(m:Int)) (by omega) (by omega)
     refine dT 3 rfl (T9 (by kernel_rfl) rfl rfl rfl b15 (f8 b15 hz14)) ?_
     refine dT 4 rfl (E8 (by kernel_rfl) rfl rfl rfl hz14) ?_
     refine dT 5 rfl pM ?_
     refine dO 6 rfl (n9 14 14 false (N9 Tryz.func33) (H2 (IntKind.i64.wrap ((W6 (G9 (m8 (U9 fs)))) +(m:Int))) (by(simp only [IntKind.wrap_i64];omega))) rfl (.cons rfl (.c .t0) .nil) rfl rfl rfl) ?_
     obtain⟨z16,hz17,b18⟩:=t9 (xs:=K4 b ((Y5 false (G9 (F9 a0)) (G9 (F9 a1))).take m) (W6 (G9 (m8 (U9 fs))))) (n:=z13) (by(have e2:=eR _ _ (by assumption);(try rw [Y1]);omega)) (by(have e2:=eR _ _ (by assumption);(try rw [Y1]);omega))
     refine dT 7 rfl (T9 (by kernel_rfl) rfl rfl rfl b18 (f8 b18 hz17)) ?_
     refine dO 8 rfl (D8 (-1 - (IntKind.i64.wrap ((W6 (G9 (m8 (U9 fs)))) +(m:Int)))) (n:=1) (by kernel_rfl) rfl rfl hz17 rfl rfl rfl rfl (.cons .sc .nil) rfl (fun j h1 h2=>by(simp at h1 h2;omega))) ?_
     refine dE ?_
     refine i9<|l9<|rM ?_
     refine rB ?_
     refine rA<|c9 ?_
     refine n8 ?_ (ih0 (m + 1) (by(try dsimp only);omega) (by(try dsimp only);(simp only [IntKind.wrap_i64] at *;omega)))
     exact⟨⟨rfl,⟨rfl,⟨rfl,⟨rfl,⟨rfl,⟨rfl,⟨(i6 (s8 (by omega) (by omega))),trivial⟩⟩⟩⟩⟩⟩⟩,⟨rfl,⟨rfl,⟨rfl,⟨rfl,⟨rfl,⟨rfl,⟨(E7 (by rw [s8 (by omega) (by omega)];exact oU hz14)),⟨rfl,trivial⟩⟩⟩⟩⟩⟩⟩⟩,rfl⟩
   ·
    have h11':=l8 h11
    refine R9 rfl<|w9<|rC 2 ?_
    refine d9 (I9 14 (zs:=[.slice none 0 0,.slice none 0 0]) rfl rfl (by kernel_rfl) rfl) ?_
    refine rS 2<|c9<|k9<|w9 ?_
    refine rA<|c9<|r9 ?_
    refine o9 5 rfl (K9 rfl) ?_
    refine o9 7 rfl (K9 rfl) ?_
    refine L9 (fun(n,gs)=>⟨[(4,some (.c (.ptr 1 0))),(6,some (.c (.ptr 2 0))),(8,some (.c (.ptr 8 0))),(15,some (.c (.own 9))),(19,some (.c (.ptr 14 0))),(20,some (.c (.t none (.v (.int .i64 ((n:Int)))))))],[(0,some (.box [.t none (.sl 3 (d8 Z9 f9 a8) rs),.t none (.sl 2 (E9 f9 (B9 1 f9)) fs)])),(1,some (.box [.t none (.sl 2 (E9 f9 (B9 1 f9)) a0),.t none (.sl 2 (E9 f9 (B9 1 f9)) a1),.t none (.v (.bool a2)),.t none (.v (.int .i64 a3)),.t none (.v (.int .i64 a4))])),(2,some (.box [.t none (.v (.slice none 0 0)),.t none (.v (.slice none 0 0))])),(8,some (.box [.t none (.sl 3 (d8 Z9 f9 a8) rs),.t none (.sl 2 (E9 f9 (B9 1 f9)) fs)])),(9,some (.row none 3 true 1 f9 (w3 fs a0 a1 b))),(11,some (.row none 3 true 1 f9 (Y5 false (G9 (F9 a0)) (G9 (F9 a1))))),(14,some (.box [.t none (.sl 3 (d8 Z9 f9 a8) rs),.t none (.sl 2 (E9 f9 (B9 1 f9)) gs)]))],15⟩:Nat × p9→St) (fun(n,gs)=>n≤a1.length∧gs=G5 fs ((a1.take n).map (FV (w3 fs a0 a1 b)))) (fun(n,gs)=>a1.length - n) (0,fs) ⟨⟨rfl,⟨rfl,⟨rfl,⟨rfl,⟨rfl,⟨rfl,trivial⟩⟩⟩⟩⟩⟩,⟨rfl,⟨rfl,⟨rfl,⟨rfl,⟨(E7 (by rw [List.take_of_length_le (by omega)];rfl)),⟨rfl,⟨rfl,trivial⟩⟩⟩⟩⟩⟩⟩,rfl⟩ (by exact⟨Nat.zero_le _,rfl⟩) ?_
    rintro⟨n,gs⟩ hI ih1
    try dsimp only at hI ih1
    obtain⟨j1,i2⟩:=hI
    refine k9<|w9<|rM ?_
    refine rF 1 ?_
    refine rL ?_
    refine d9 (S9 rfl rfl rfl) ?_
    refine rB<|c9 ?_
    refine j9 rfl (fun h19=>?_) (fun h19=>?_)
    ·
     have h19':=j8 h19
     refine m9<|k9<|r9<|w9<|rF 1 ?_
     refine rL ?_
     refine rM ?_
     obtain⟨z20,hz21,b22⟩:=t9 (xs:=a1) (n:=(n:Int)) (by omega) (by omega)
     refine d9 (P9 rfl (by kernel_rfl) rfl rfl b22 hz21) ?_
     refine d9 (A6 rfl (n:=2) (by kernel_rfl) (by kernel_rfl) rfl rfl) ?_
     refine rM ?_
     rcases hm23:Y8 (w3 fs a0 a1 b) z20.2 with _ | q25
     ·
      refine d9 (n9 15 19 false (N9 Tryz.func34) (U5 z20.1 z20.2 (w3 fs a0 a1 b) (by(have e1:=j6 (f:=(fun(x:Int ×(List Int))=>x.2.length)) (l:=a1) (m:=n) (by assumption);(try dsimp only at e1);omega)) (by exact hoh _ (J8 (by assumption))) (by omega) _ hm23) rfl (.cons rfl (.agg (.cons .t0 (.cons .t0 .nil))) (.cons rfl (.c (.own rfl)) .nil)) rfl rfl rfl) ?_
      refine rM ?_
      refine d9 (O9 rfl rfl rfl rfl) ?_
      refine d9 (O9 rfl rfl rfl rfl) ?_
      refine d9 (I9 19 (zs:=[.int .i64 0,.slice none 0 0]) rfl rfl (by kernel_rfl) rfl) ?_
      refine rS 2 ?_
      refine rA<|dJ ?_
      refine rC 2 ?_
      refine rC 2 ?_
      refine yH 115 1 (sz:=1) f9 rfl rfl ?_
      refine d9 (n9 20 20 true (N9 Tryz.func35) (U7 rs gs 0 ([]) (by(have e2:=lR i2;omega)) (by(simp only [List.length_cons,List.length_nil];omega))) rfl (.cons rfl (.agg (.cons .t0 (.cons .t0 .nil))) (.cons rfl (.agg (.cons .t0 (.cons .t0 .nil))) .nil)) rfl rfl rfl) ?_
      refine rS 2<|c9<|i9<|l9 ?_
      refine rM ?_
      refine rB ?_
      refine rA<|c9 ?_
      refine n8 ?_ (ih1 (n + 1,c4 gs (0,([]))) (by(try dsimp only);omega) (by(try dsimp only);exact⟨by omega,by(exact ON i2 hz21 (by assumption))⟩))
      exact⟨⟨rfl,⟨rfl,⟨rfl,⟨rfl,⟨rfl,⟨(i6 (s8 (by omega) (by omega))),trivial⟩⟩⟩⟩⟩⟩,⟨rfl,⟨rfl,⟨rfl,⟨rfl,⟨rfl,⟨rfl,⟨rfl,trivial⟩⟩⟩⟩⟩⟩⟩,rfl⟩
     ·
      refine d9 (n9 15 19 false (N9 Tryz.func34) (U5 z20.1 z20.2 (w3 fs a0 a1 b) (by(have e1:=j6 (f:=(fun(x:Int ×(List Int))=>x.2.length)) (l:=a1) (m:=n) (by assumption);(try dsimp only at e1);omega)) (by exact hoh _ (J8 (by assumption))) (by omega) _ hm23) rfl (.cons rfl (.agg (.cons .t0 (.cons .t0 .nil))) (.cons rfl (.c (.own rfl)) .nil)) rfl rfl rfl) ?_
      refine rM ?_
      refine d9 (O9 rfl rfl rfl rfl) ?_
      refine d9 (O9 rfl rfl rfl rfl) ?_
      refine d9 (I9 19 (zs:=[.int .i64 0,.slice none 0 0]) rfl rfl (by kernel_rfl) rfl) ?_
      refine rS 2 ?_
      refine rA<|dJ ?_
      refine rC 2 ?_
      refine rC 2 ?_
      refine FY 18 rfl (K9 rfl) ?_
      refine d9 (n9 20 20 true (N9 Tryz.func35) (U7 rs gs z20.1 q25 (by(have e2:=lR i2;omega)) (by(have e9:=N6 (by assumption);have e1:=j6 (f:=(fun(x:Int ×(List Int))=>x.2.length)) (l:=a1) (m:=n) (by assumption);(try dsimp only at e1);omega))) rfl (.cons rfl (.agg (.cons .t0 (.cons .t0 .nil))) (.cons rfl (.agg (.cons .t0 (.cons .t0 .nil))) .nil)) rfl rfl rfl) ?_
      refine rS 2<|c9<|i9<|l9 ?_
      refine rM ?_
      refine rB ?_
      refine rA<|c9 ?_
      refine n8 ?_ (ih1 (n + 1,c4 gs (z20.1,q25)) (by(try dsimp only);omega) (by(try dsimp only);exact⟨by omega,by(exact gM i2 hz21 (by assumption))⟩))
      exact⟨⟨rfl,⟨rfl,⟨rfl,⟨rfl,⟨rfl,⟨(i6 (s8 (by omega) (by omega))),trivial⟩⟩⟩⟩⟩⟩,⟨rfl,⟨rfl,⟨rfl,⟨rfl,⟨rfl,⟨rfl,⟨rfl,trivial⟩⟩⟩⟩⟩⟩⟩,rfl⟩
    ·
     have h19':=l8 h19
     refine R9 rfl<|k9<|w9<|rF 1 ?_
     refine rL ?_
     refine d9 (S9 rfl rfl rfl) ?_
     refine rB<|c9 ?_
     refine j9 rfl (fun h26=>?_) (fun h26=>?_)
     ·
      have h26':=j8 h26
      refine w9<|rC 2 ?_
      refine rS 2 ?_
      refine rA<|c9 ?_
      refine tk Tryz.func7 (r8 2 (.tmp rfl .nil)) ?_ <;>(try clear ih0) <;>(try clear ih1)
      all_goals(((have et:gs=O1 fs a0 a1 b:=(by rw [i2,List.take_of_length_le (by omega),YT (zY (Z7 ea)).1]));have en:(tW a0 a1).length=(Y5 false (G9 (F9 a0)) (G9 (F9 a1))).length:=rfl;have eN:GT fs=W6 (G9 (m8 (U9 fs))):=rfl;(have e8:=lW (rs:=rs) (fs:=fs) (a0:=a0) (a1:=a1) (a2:=a2) (a3:=a3) (a4:=a4) (v:=b) ea eb (by exact qP (by rw [← et];omega));(rw [e8.1,e8.2.1,e8.2.2];rfl))))
     ·
      have h26':=l8 h26
      refine m9<|w9<|rC 2 ?_
      refine d9 (n9 15 20 false (N9 Tryz.func28) (i5 rs gs (by omega) (by(have e2:=lR i2;omega))) rfl (.cons rfl (.agg (.cons .t0 (.cons .t0 .nil))) .nil) rfl rfl rfl) ?_
      refine rS 2 ?_
      refine rA<|c9 ?_
      refine o9 17 rfl (K9 rfl) ?_
      refine o9 19 rfl (K9 rfl) ?_
      refine tk Tryz.func7 (r8 2 (.tmp rfl .nil)) ?_ <;>(try clear ih0) <;>(try clear ih1)
      all_goals(((have et:gs=O1 fs a0 a1 b:=(by rw [i2,List.take_of_length_le (by omega),YT (zY (Z7 ea)).1]));have en:(tW a0 a1).length=(Y5 false (G9 (F9 a0)) (G9 (F9 a1))).length:=rfl;have eN:GT fs=W6 (G9 (m8 (U9 fs))):=rfl;(have e8:=IR (rs:=rs) (fs:=fs) (a0:=a0) (a1:=a1) (a2:=a2) (a3:=a3) (a4:=a4) (v:=b) ea eb (pN (by omega) (by rw [← et];omega));(rw [e8.1,e8.2.1,e8.2.2,et];rfl))))
theorem qZ (p0:List UInt8)(p1:Int)(p2:Bool)(q0:List UInt8)(q1:Int)(q2:Bool):sG Tryz.prog .neq 76 [.string (JY p0),.int .i64 p1,.bool p2] [.string (JY q0),.int .i64 q1,.bool q2] (.bool (!(decide ((p0,p1,p2)=(q0,q1,q2))))):=by
 refine⟨rfl,fun x y w=>?_⟩
 have hS:Tryz.prog.underlying 76=some (.struct (Tryz.prog.fieldsOf 76)):=by kernel_rfl
 have hp:Tryz.prog.stoodInHeld 76=false:=by kernel_rfl
 have u3:=Tryz.underlying3;have a3:=Tryz.isAgg3;have z3:=Tryz.sizeOf3;have u4:=Tryz.underlying4;have a4:=Tryz.isAgg4;have z4:=Tryz.sizeOf4;have u9:=Tryz.underlying9;have a9:=Tryz.isAgg9;have z9:=Tryz.sizeOf9
 rw [Sem.run_bind,run_eqGuard_agg w _ _ _ _ _ _ (by kernel_rfl),Result.andThen_ok,run_neq_struct,show(10000:Nat)=9999 + 1 from rfl,run_equalIn_agg w 9999 76 _ _ hS hp]
 simp only [Program.fieldsOf,Tryz.underlying76]
 go_simp
 by_cases h0:p0=q0 <;> by_cases h1:p1=q1 <;> by_cases h2:p2=q2 <;> simp [h0,h1,h2,IZ]
theorem IT (a b:V9)(ha:a.length≤1048576)(hb:b.length≤1048576):Pu Tryz.prog 36 [.c (.t none (.sl 3 (d8 Z9 f9 a8) a)),.c (.t none (.sl 3 (d8 Z9 f9 a8) b))] [] 0 (.c (.t none (.v (.bool (decide (a=b)))))):=by
 refine u6 Tryz.func36 fun w S=>?_
 refine w9<|rA<|c9<|k9<|w9 ?_
 refine rM ?_
 refine d9 (S9 rfl rfl rfl) ?_
 refine rM ?_
 refine d9 (S9 rfl rfl rfl) ?_
 refine rB<|c9 ?_
 refine j9 rfl (fun h1=>?_) (fun h1=>?_)
 ·
  have h1':=j8 h1
  refine w9<|rA<|c9 ?_
  refine tk Tryz.func36 (.tmp rfl .nil) ?_ <;>(try clear ih0)
  all_goals(refine N7 ?_;(have:a≠b:=by rintro rfl;simp at *);simp [this])
 ·
  have h1':=l8 h1
  refine m9<|k9<|w9<|rA<|c9<|r9 ?_
  refine L9 (fun m=>⟨[(0,some (.c (.t none (.sl 3 (d8 Z9 f9 a8) a)))),(1,some (.c (.t none (.sl 3 (d8 Z9 f9 a8) b)))),(5,some (.c (.t none (.v (.int .i64 ((m:Int)))))))],[],0⟩:Nat→St) (fun m=>m≤a.length∧a.length=b.length∧a.take m=b.take m) (fun m=>a.length - m) 0 ⟨⟨rfl,⟨rfl,⟨rfl,trivial⟩⟩⟩,trivial,rfl⟩ (by exact⟨Nat.zero_le _,by omega,rfl⟩) ?_
  rintro m hI ih0
  try dsimp only at hI ih0
  obtain⟨i1,i2,i3⟩:=hI
  refine k9<|w9<|rM ?_
  refine rM ?_
  refine d9 (S9 rfl rfl rfl) ?_
  refine rB<|c9 ?_
  refine j9 rfl (fun h2=>?_) (fun h2=>?_)
  ·
   have h2':=j8 h2
   refine m9<|k9<|r9<|k9 ?_
   refine tY ?_
   refine dT 0 rfl pM ?_
   refine dT 1 rfl pM ?_
   obtain⟨z3,hz4,b5⟩:=t9 (xs:=a) (n:=(m:Int)) (by omega) (by omega)
   refine dT 2 rfl (w8 (by kernel_rfl) rfl rfl b5 hz4) ?_
   refine dT 3 rfl (p6 (n:=3) (by kernel_rfl) (by kernel_rfl) rfl rfl) ?_
   refine dT 4 rfl pM ?_
   refine dT 5 rfl pM ?_
   obtain⟨z6,hz7,b8⟩:=t9 (xs:=b) (n:=(m:Int)) (by omega) (by omega)
   refine dT 6 rfl (w8 (by kernel_rfl) rfl rfl b8 hz7) ?_
   refine dT 7 rfl (p6 (n:=3) (by kernel_rfl) (by kernel_rfl) rfl rfl) ?_
   refine dT 8 rfl (yI rfl rfl (qZ _ _ _ _ _ _)) ?_
   refine dE ?_
   refine j9 rfl (fun h9=>?_) (fun h9=>?_)
   ·
    have h9':=l8 (P4 h9)
    refine w9<|rA<|c9 ?_
    refine tk Tryz.func36 (.tmp rfl .nil) ?_ <;>(try clear ih0)
    all_goals(refine N7 ?_;have:=wL (a:=a) (b:=b) hz4 hz7 (fun e=>by subst e;simp_all);simp [this])
   ·
    have h9':=j8 (O4 h9)
    refine m9<|i9<|l9<|rM ?_
    refine rB ?_
    refine rA<|c9 ?_
    refine n8 ?_ (ih0 (m + 1) (by(try dsimp only);omega) (by(try dsimp only);exact⟨by omega,i2,oZ i3 (FW hz4 hz7 (by assumption))⟩))
    exact⟨⟨rfl,⟨rfl,⟨(i6 (s8 (by omega) (by omega))),trivial⟩⟩⟩,trivial,rfl⟩
  ·
   have h2':=l8 h2
   refine R9 rfl<|w9<|rA<|c9 ?_
   refine tk Tryz.func36 (.tmp rfl .nil) ?_ <;>(try clear ih0)
   all_goals((obtain rfl:m=a.length:=by omega);rw [List.take_length,i2,List.take_length] at i3;refine N7 ?_;simp [i3])
theorem n2 (rs:V9)(fs:p9)(rs2:V9)(fs2:p9)(hrs:rs.length≤1048576)(hfs:l7 (fun(x:Int ×(List Int))=>x.2.length) fs≤1048576)(hrs2:rs2.length≤1048576)(hfs2:l7 (fun(x:Int ×(List Int))=>x.2.length) fs2≤1048576):Pu Tryz.prog 8 [.agg [.t none (.sl 3 (d8 Z9 f9 a8) rs),.t none (.sl 2 (E9 f9 (B9 1 f9)) fs)],.agg [.t none (.sl 3 (d8 Z9 f9 a8) rs2),.t none (.sl 2 (E9 f9 (B9 1 f9)) fs2)]] [] 0 (.c (.t none (.v (.bool (decide (rs=rs2)&&decide (fs=fs2)))))):=by
 refine u6 Tryz.func8 fun w S=>?_
 have gl:=L8 (f:=(fun(x:Int ×(List Int))=>x.2.length)) (l:=fs);have gl2:=L8 (f:=(fun(x:Int ×(List Int))=>x.2.length)) (l:=fs2)
 refine w9 ?_
 refine d9 (X9 0 rfl rfl rfl rfl) ?_
 refine d9 (X9 1 rfl rfl rfl rfl) ?_
 refine rA<|c9<|k9<|w9 ?_
 refine rF 0 ?_
 refine rL ?_
 refine rF 0 ?_
 refine rL ?_
 refine d9 (n9 2 2 false (N9 Tryz.func36) (IT rs rs2 (by omega) (by omega)) rfl (.cons rfl (.c .t0) (.cons rfl (.c .t0) .nil)) rfl rfl rfl) ?_
 refine d9 (Q8 rfl rfl) ?_
 refine rM ?_
 refine x9 (fun g1=>?_) (fun g1=>?_)
 ·
  have g1':=j8 (O4 g1)
  refine rF 1 ?_
  refine x9 (fun _=>?_) (C9 g1)
  refine rL ?_
  refine x9 (fun _=>?_) (C9 g1)
  refine d9 (S9 rfl rfl rfl) ?_
  refine x9 (fun _=>?_) (C9 g1)
  refine rF 1 ?_
  refine x9 (fun _=>?_) (C9 g1)
  refine rL ?_
  refine x9 (fun _=>?_) (C9 g1)
  refine d9 (S9 rfl rfl rfl) ?_
  refine x9 (fun _=>?_) (C9 g1)
  refine rB ?_
  refine d9 (H9 rfl rfl g1 rfl) ?_
  refine c9 ?_
  refine j9 rfl (fun h2=>?_) (fun h2=>?_)
  ·
   have h2':=j8 h2
   refine w9<|rA<|c9 ?_
   refine tk Tryz.func8 (.tmp rfl .nil) ?_ <;>(try clear ih0)
   all_goals(refine N7 ?_;(have e7:fs.length≠fs2.length→¬fs=fs2:=fun h e=>h (by rw [e]));grind)
  ·
   have h2':=l8 h2
   refine m9<|k9<|w9<|rA<|c9<|r9 ?_
   refine L9 (fun m=>⟨[(2,some (.c (.ptr 0 0))),(3,some (.c (.ptr 1 0))),(5,some (.c (.t none (.v (.int .i64 ((m:Int)))))))],[(0,some (.box [.t none (.sl 3 (d8 Z9 f9 a8) rs),.t none (.sl 2 (E9 f9 (B9 1 f9)) fs)])),(1,some (.box [.t none (.sl 3 (d8 Z9 f9 a8) rs2),.t none (.sl 2 (E9 f9 (B9 1 f9)) fs2)]))],2⟩:Nat→St) (fun m=>m≤fs.length∧fs.length=fs2.length∧decide (rs=rs2)=true∧fs.take m=fs2.take m) (fun m=>fs.length - m) 0 ⟨⟨rfl,⟨rfl,⟨rfl,trivial⟩⟩⟩,⟨rfl,⟨rfl,trivial⟩⟩,rfl⟩ (by exact⟨Nat.zero_le _,by grind,by grind,rfl⟩) ?_
   rintro m hI ih0
   try dsimp only at hI ih0
   obtain⟨i1,i2,i4,i3⟩:=hI
   refine k9<|w9<|rM ?_
   refine rF 1 ?_
   refine rL ?_
   refine d9 (S9 rfl rfl rfl) ?_
   refine rB<|c9 ?_
   refine j9 rfl (fun h3=>?_) (fun h3=>?_)
   ·
    have h3':=j8 h3
    refine m9<|k9<|r9<|k9 ?_
    refine tY ?_
    refine dT 0 rfl (pF 1) ?_
    refine dT 1 rfl pL ?_
    refine dT 2 rfl pM ?_
    obtain⟨z4,hz5,b6⟩:=t9 (xs:=fs) (n:=(m:Int)) (by omega) (by omega)
    refine dT 3 rfl (w8 (by kernel_rfl) rfl rfl b6 hz5) ?_
    refine dT 4 rfl (p6 (n:=2) (by kernel_rfl) (by kernel_rfl) rfl rfl) ?_
    refine dT 5 rfl (pF 1) ?_
    refine dT 6 rfl pL ?_
    refine dT 7 rfl pM ?_
    obtain⟨z7,hz8,b9⟩:=t9 (xs:=fs2) (n:=(m:Int)) (by omega) (by omega)
    refine dT 8 rfl (w8 (by kernel_rfl) rfl rfl b9 hz8) ?_
    refine dT 9 rfl (p6 (n:=2) (by kernel_rfl) (by kernel_rfl) rfl rfl) ?_
    refine dO 10 rfl (n9 2 2 false (N9 Tryz.func37) (C5 z4.1 z4.2 z7.1 z7.2 (by(have e1:=j6 (f:=(fun(x:Int ×(List Int))=>x.2.length)) (l:=fs) (m:=m) (by assumption);(try dsimp only at e1);omega)) (by(have e1:=j6 (f:=(fun(x:Int ×(List Int))=>x.2.length)) (l:=fs2) (m:=m) (by assumption);(try dsimp only at e1);omega))) rfl (.cons rfl (.agg (.cons .t0 (.cons .t0 .nil))) (.cons rfl (.agg (.cons .t0 (.cons .t0 .nil))) .nil)) rfl rfl rfl) ?_
    refine dT 11 rfl pB ?_
    refine dE ?_
    refine j9 rfl (fun h10=>?_) (fun h10=>?_)
    ·
     have h10':=j8 h10
     refine w9<|rA<|c9 ?_
     refine tk Tryz.func8 (.tmp rfl .nil) ?_ <;>(try clear ih0)
     all_goals(refine N7 ?_;have e7:=wL (a:=fs) (b:=fs2) hz5 hz8 (fun e=>(by assumption:¬S8 _ _=0) (I4.2 e));simp [e7])
    ·
     have h10':=l8 h10
     refine m9<|i9<|l9<|rM ?_
     refine rB ?_
     refine rA<|c9 ?_
     refine n8 ?_ (ih0 (m + 1) (by(try dsimp only);omega) (by(try dsimp only);exact⟨by omega,i2,i4,oZ i3 (FW hz5 hz8 (I4.1 (by simp only [Decidable.not_not] at *;assumption)))⟩))
     exact⟨⟨rfl,⟨rfl,⟨(i6 (s8 (by omega) (by omega))),trivial⟩⟩⟩,⟨rfl,⟨rfl,trivial⟩⟩,rfl⟩
   ·
    have h3':=l8 h3
    refine R9 rfl<|w9<|rA<|c9 ?_
    refine tk Tryz.func8 (.tmp rfl .nil) ?_ <;>(try clear ih0)
    all_goals((obtain rfl:m=fs.length:=by omega);rw [List.take_length,i2,List.take_length] at i3;refine N7 ?_;grind)
 ·
  have g1':=l8 (P4 g1)
  refine x9 (nc g1) (fun _=>?_)
  refine x9 (nc g1) (fun _=>?_)
  refine x9 (nc g1) (fun _=>?_)
  refine x9 (nc g1) (fun _=>?_)
  refine x9 (nc g1) (fun _=>?_)
  refine x9 (nc g1) (fun _=>?_)
  refine d9 (M9 rfl rfl g1 rfl) ?_
  refine c9 ?_
  refine j9 rfl (fun _=>?_) (nc rfl)
  refine w9<|rA<|c9 ?_
  refine tk Tryz.func8 (.tmp rfl .nil) ?_ <;>(try clear ih0)
  all_goals(simp_all <;> omega)
theorem w6 (p0:List UInt8)(p1:Int)(p2:Bool)(q0:List UInt8)(q1:Int)(q2:Bool):sG Tryz.prog .neq 76 [.string (JY p0),.int .i64 p1,.bool p2] [.string (JY q0),.int .i64 q1,.bool q2] (.bool (!(decide ((p0,p1,p2)=(q0,q1,q2))))):=by
 refine⟨rfl,fun x y w=>?_⟩
 have hS:Tryz.prog.underlying 76=some (.struct (Tryz.prog.fieldsOf 76)):=by kernel_rfl
 have hp:Tryz.prog.stoodInHeld 76=false:=by kernel_rfl
 have u3:=Tryz.underlying3;have a3:=Tryz.isAgg3;have z3:=Tryz.sizeOf3;have u4:=Tryz.underlying4;have a4:=Tryz.isAgg4;have z4:=Tryz.sizeOf4;have u9:=Tryz.underlying9;have a9:=Tryz.isAgg9;have z9:=Tryz.sizeOf9
 rw [Sem.run_bind,run_eqGuard_agg w _ _ _ _ _ _ (by kernel_rfl),Result.andThen_ok,run_neq_struct,show(10000:Nat)=9999 + 1 from rfl,run_equalIn_agg w 9999 76 _ _ hS hp]
 simp only [Program.fieldsOf,Tryz.underlying76]
 go_simp
 by_cases h0:p0=q0 <;> by_cases h1:p1=q1 <;> by_cases h2:p2=q2 <;> simp [h0,h1,h2,IZ]
theorem p5 (a b:V9)(ha:a.length≤1048576)(hb:b.length≤1048576):Pu Tryz.prog 155 [.c (.t none (.sl 3 (d8 Z9 f9 a8) a)),.c (.t none (.sl 3 (d8 Z9 f9 a8) b))] [] 0 (.c (.t none (.v (.bool (decide (a=b)))))):=by
 refine u6 Tryz.func155 fun w S=>?_
 refine w9<|rA<|c9<|k9<|w9 ?_
 refine rM ?_
 refine d9 (S9 rfl rfl rfl) ?_
 refine rM ?_
 refine d9 (S9 rfl rfl rfl) ?_
 refine rB<|c9 ?_
 refine j9 rfl (fun h1=>?_) (fun h1=>?_)
 ·
  have h1':=j8 h1
  refine w9<|rA<|c9 ?_
  refine tk Tryz.func155 (.tmp rfl .nil) ?_ <;>(try clear ih0)
  all_goals(refine N7 ?_;(have:a≠b:=by rintro rfl;simp at *);simp [this])
 ·
  have h1':=l8 h1
  refine m9<|k9<|w9<|rM ?_
  refine d9 (S9 rfl rfl rfl) ?_
  refine rM<|c9<|r9 ?_
  refine L9 (fun m=>⟨[(0,some (.c (.t none (.sl 3 (d8 Z9 f9 a8) a)))),(1,some (.c (.t none (.sl 3 (d8 Z9 f9 a8) b)))),(12,some (.c (.t none (.v (.int .i64 ((a.length:Int))))))),(13,some (.c (.t none (.v (.int .i64 ((m:Int)))))))],[],0⟩:Nat→St) (fun m=>m≤a.length∧a.length=b.length∧a.take m=b.take m) (fun m=>a.length - m) 0 ⟨⟨rfl,⟨rfl,⟨rfl,⟨rfl,trivial⟩⟩⟩⟩,trivial,rfl⟩ (by exact⟨Nat.zero_le _,by omega,rfl⟩) ?_
  rintro m hI ih0
  try dsimp only at hI ih0
  obtain⟨i1,i2,i3⟩:=hI
  refine w9<|rB<|c9<|k9 ?_
  refine j9 rfl (fun h2=>?_) (fun h2=>?_)
  ·
   have h2':=j8 h2
   refine m9<|k9<|r9<|w9<|rM ?_
   refine rA<|c9<|k9 ?_
   refine tY ?_
   refine dT 0 rfl pM ?_
   refine dT 1 rfl pM ?_
   obtain⟨z3,hz4,b5⟩:=t9 (xs:=a) (n:=(m:Int)) (by omega) (by omega)
   refine dT 2 rfl (w8 (by kernel_rfl) rfl rfl b5 hz4) ?_
   refine dT 3 rfl (p6 (n:=3) (by kernel_rfl) (by kernel_rfl) rfl rfl) ?_
   refine dT 4 rfl pM ?_
   refine dT 5 rfl pM ?_
   obtain⟨z6,hz7,b8⟩:=t9 (xs:=b) (n:=(m:Int)) (by omega) (by omega)
   refine dT 6 rfl (w8 (by kernel_rfl) rfl rfl b8 hz7) ?_
   refine dT 7 rfl (p6 (n:=3) (by kernel_rfl) (by kernel_rfl) rfl rfl) ?_
   refine dT 8 rfl (yI rfl rfl (w6 _ _ _ _ _ _)) ?_
   refine dE ?_
   refine j9 rfl (fun h9=>?_) (fun h9=>?_)
   ·
    have h9':=l8 (P4 h9)
    refine w9<|rA<|c9 ?_
    refine tk Tryz.func155 (.tmp rfl .nil) ?_ <;>(try clear ih0)
    all_goals(refine N7 ?_;have:=wL (a:=a) (b:=b) hz4 hz7 (fun e=>by subst e;simp_all);simp [this])
   ·
    have h9':=j8 (O4 h9)
    refine m9<|i9<|l9<|rB ?_
    refine rM<|c9 ?_
    refine n8 ?_ (ih0 (m + 1) (by(try dsimp only);omega) (by(try dsimp only);exact⟨by omega,i2,oZ i3 (FW hz4 hz7 (by assumption))⟩))
    exact⟨⟨rfl,⟨rfl,⟨rfl,⟨(i6 (s8 (by omega) (by omega))),trivial⟩⟩⟩⟩,trivial,rfl⟩
  ·
   have h2':=l8 h2
   refine R9 rfl<|w9<|rA<|c9 ?_
   refine tk Tryz.func155 (.tmp rfl .nil) ?_ <;>(try clear ih0)
   all_goals((obtain rfl:m=a.length:=by omega);rw [List.take_length,i2,List.take_length] at i3;refine N7 ?_;simp [i3])
theorem VY (rs:V9)(fs:p9)(rs2:V9)(fs2:p9)(hrs:rs.length≤1048576)(hfs:l7 (fun(x:Int ×(List Int))=>x.2.length) fs≤1048576)(ho:∀z∈fs,∀x∈z.2,s7 x)(hrs2:rs2.length≤1048576)(hfs2:l7 (fun(x:Int ×(List Int))=>x.2.length) fs2≤1048576)(ho2:∀z∈fs2,∀x∈z.2,s7 x):Pu Tryz.prog 121 [.agg [.t none (.sl 3 (d8 Z9 f9 a8) rs),.t none (.sl 2 (E9 f9 (B9 1 f9)) fs)],.agg [.t none (.sl 3 (d8 Z9 f9 a8) rs2),.t none (.sl 2 (E9 f9 (B9 1 f9)) fs2)]] [] 0 (.c (.t none (.v (.bool (M8 rs fs&&(M8 rs2 fs2&&decide (rs=rs2))))))):=by
 refine u6 Tryz.func121 fun w S=>?_
 refine w9 ?_
 refine d9 (X9 0 rfl rfl rfl rfl) ?_
 refine d9 (X9 1 rfl rfl rfl rfl) ?_
 refine rA<|o7 ?_
 refine rC 2 ?_
 refine d9 (n9 2 2 false (N9 Tryz.func12) (f7 rs fs (by omega) (by omega) (by omega)) rfl (.cons rfl (.agg (.cons .t0 (.cons .t0 .nil))) .nil) rfl rfl rfl) ?_
 refine rM ?_
 refine x9 (fun g1=>?_) (fun g1=>?_)
 ·
  have g1':=g1
  refine rC 2 ?_
  refine x9 (fun _=>?_) (nc g1)
  refine d9 (n9 2 2 false (N9 Tryz.func12) (f7 rs2 fs2 (by omega) (by omega) (by omega)) rfl (.cons rfl (.agg (.cons .t0 (.cons .t0 .nil))) .nil) rfl rfl rfl) ?_
  refine d9 (M9 rfl rfl g1 rfl) ?_
  refine rM ?_
  refine x9 (fun g2=>?_) (fun g2=>?_)
  ·
   have g2':=g2
   refine rF 0 ?_
   refine x9 (fun _=>?_) (nc g2)
   refine rL ?_
   refine x9 (fun _=>?_) (nc g2)
   refine rF 0 ?_
   refine x9 (fun _=>?_) (nc g2)
   refine rL ?_
   refine x9 (fun _=>?_) (nc g2)
   refine d9 (n9 2 2 false (N9 Tryz.func155) (p5 rs rs2 (by omega) (by omega)) rfl (.cons rfl (.c .t0) (.cons rfl (.c .t0) .nil)) rfl rfl rfl) ?_
   refine d9 (M9 rfl rfl g2 rfl) ?_
   refine rA<|c9 ?_
   refine tk Tryz.func121 (.tmp rfl .nil) ?_
   all_goals(refine N7 ?_;clear hrs hfs ho hrs2 hfs2 ho2;grind)
  ·
   have g2':=g2
   refine x9 (C9 g2) (fun _=>?_)
   refine x9 (C9 g2) (fun _=>?_)
   refine x9 (C9 g2) (fun _=>?_)
   refine x9 (C9 g2) (fun _=>?_)
   refine d9 (H9 rfl rfl g2 rfl) ?_
   refine rA<|c9 ?_
   refine tk Tryz.func121 (.tmp rfl .nil) ?_
   all_goals(refine N7 ?_;clear hrs hfs ho hrs2 hfs2 ho2;grind)
 ·
  have g1':=g1
  refine x9 (C9 g1) (fun _=>?_)
  refine d9 (H9 rfl rfl g1 rfl) ?_
  refine rM ?_
  refine x9 (C9 rfl) (fun _=>?_)
  refine x9 (C9 rfl) (fun _=>?_)
  refine x9 (C9 rfl) (fun _=>?_)
  refine x9 (C9 rfl) (fun _=>?_)
  refine x9 (C9 rfl) (fun _=>?_)
  refine d9 (H9 rfl rfl rfl rfl) ?_
  refine rA<|c9 ?_
  refine tk Tryz.func121 (.tmp rfl .nil) ?_
  all_goals(refine N7 ?_;clear hrs hfs ho hrs2 hfs2 ho2;grind)
theorem NZ:kH Tryz.prog 123 [.agg [.t none tA,.t none tA],.c (.ptr 0 0),.c (.ptr 1 0)] [.t none (.v (.int .i64 1))] [.t none (.v (.int .i64 1))] 66 2 JQ [] ([]++[()]) 3 (.t none (.v (.bool true))):=by
 intro U
 refine AY Tryz.func123 rfl (Nat.le_of_ble_eq_true rfl) fun w S M=>?_
 refine w9 ?_
 refine d9 (X9 3 rfl rfl rfl rfl) ?_
 refine rA<|o7 ?_
 refine d9 (aQ rfl (i:=0) rfl pL) ?_
 refine rC 2 ?_
 refine d9 (G8 4 (e:=66) (sz:=2) (zs:=[.slice none 0 0,.slice none 0 0]) rfl rfl (by kernel_rfl) rfl rfl rfl rfl rfl) ?_
 refine d9 (i8 2 (e:=66) (sz:=2) (by':=48) (()) rfl (by kernel_rfl) rfl rfl rfl rfl rfl rfl (.cons .sh (.cons .sh .nil)) rfl (by decide) (by decide)) ?_
 refine d9 (EU (n:=1) (by kernel_rfl) rfl rfl rfl rfl rfl rfl) ?_
 refine o7 ?_
 refine d9 (aQ rfl (i:=0) rfl pL) ?_
 refine d9 (M7 rfl rfl rfl rfl) ?_
 refine d9 (aQ rfl (i:=1) rfl pL) ?_
 refine rB ?_
 refine rA<|c9 ?_
 refine ER Tryz.func123 (.tmp rfl .nil) ?_ (hL:=⟨rfl,⟨rfl,⟨E7 ?_,trivial⟩⟩⟩)
 all_goals rfl
def Tryz.keysL_ren : Go.Shelf.Ren := ⟨fun | 7 => 157 | 10 => 172 | n => n, fun | 23 => 132 | 26 => 3 | 3 => 3 | 28 => 162 | 0 => 0 | 27 => 161 | 33 => 90 | 4 => 4 | n => n, fun | n => n⟩
theorem Tryz.keysL : Go.Proofs.SlLaysZI.n7 Tryz.prog Tryz.keysL_ren := {
 mixed := by kernel_rfl
 f7 := ⟨Tryz.f157.name, by decide, Tryz.func157.trans (congrArg some (by kernel_rfl))⟩
 f10 := ⟨Tryz.f172.name, by decide, Tryz.func172.trans (congrArg some (by kernel_rfl))⟩
 t0 := Tryz.underlying0
 a0 := Tryz.isAgg0
 z0 := Tryz.sizeOf0
 v0 := Tryz.zeroValue0
 t4 := Tryz.underlying4
 a4 := Tryz.isAgg4
 z4 := Tryz.sizeOf4
 v4 := Tryz.zeroValue4
 t23 := Tryz.underlying132
 a23 := Tryz.isAgg132
 z23 := Tryz.sizeOf132
 v23 := Tryz.zeroValue132
 t26 := Tryz.underlying3
 a26 := Tryz.isAgg3
 z26 := Tryz.sizeOf3
 v26 := Tryz.zeroValue3
 t27 := Tryz.underlying161
 a27 := Tryz.isAgg161
 z27 := Tryz.sizeOf161
 v27 := Tryz.zeroValue161
 t28 := Tryz.underlying162
 a28 := Tryz.isAgg162
 z28 := Tryz.sizeOf162
 v28 := Tryz.zeroValue162
 t33 := Tryz.underlying90
 a33 := Tryz.isAgg90
 z33 := Tryz.sizeOf90
 v33 := Tryz.zeroValue90 }
theorem O3 (b:F3):Pu Tryz.prog 157 [.c (.t none (XX Tryz.prog 3 3 (some b)))] [] 0 (.c (.t none (oG Tryz.prog 172 3 3 b))):=by
 exact KJ Tryz.keysL b
def Tryz.sortedL_ren : Go.Shelf.Ren := ⟨fun | 6 => 156 | 8 => 171 | 9 => 84 | 11 => 177 | 13 => 113 | 12 => 120 | 23 => 143 | 24 => 144 | 14 => 146 | 15 => 147 | 16 => 148 | 17 => 149 | 18 => 150 | 19 => 151 | 20 => 152 | 21 => 153 | 22 => 154 | 25 => 168 | 26 => 164 | 27 => 165 | 28 => 169 | 29 => 170 | 30 => 125 | 31 => 176 | n => n, fun | 26 => 3 | 28 => 162 | 24 => 31 | 0 => 0 | 3 => 3 | 37 => 123 | 48 => 151 | 50 => 153 | 4 => 4 | 40 => 145 | 39 => 144 | 45 => 61 | 5 => 5 | 9 => 9 | 51 => 167 | 55 => 171 | 57 => 176 | 58 => 177 | 33 => 90 | n => n, fun | n => n⟩
theorem Tryz.sortedL : Go.Proofs.SlLaysZI.n6 Tryz.prog Tryz.sortedL_ren := {
 mixed := by kernel_rfl
 f6 := ⟨Tryz.f156.name, by decide, Tryz.func156.trans (congrArg some (by kernel_rfl))⟩
 f8 := ⟨Tryz.f171.name, by decide, Tryz.func171.trans (congrArg some (by kernel_rfl))⟩
 f11 := ⟨Tryz.f177.name, by decide, Tryz.func177.trans (congrArg some (by kernel_rfl))⟩
 t0 := Tryz.underlying0
 a0 := Tryz.isAgg0
 z0 := Tryz.sizeOf0
 v0 := Tryz.zeroValue0
 t24 := Tryz.underlying31
 a24 := Tryz.isAgg31
 z24 := Tryz.sizeOf31
 v24 := Tryz.zeroValue31
 t26 := Tryz.underlying3
 a26 := Tryz.isAgg3
 z26 := Tryz.sizeOf3
 v26 := Tryz.zeroValue3
 t28 := Tryz.underlying162
 a28 := Tryz.isAgg162
 z28 := Tryz.sizeOf162
 v28 := Tryz.zeroValue162
 i26 := by kernel_rfl }
theorem XY (b:F3)(hb:b.length≤1099511627776):Pu Tryz.prog 156 [.c (.t none (oG Tryz.prog 172 3 3 b))] [(0,some (.row none 3 true 1 f9 (Y0 b)))] 1 (.c (.own 0)):=by
 exact VN Tryz.sortedL {Tryz.keysL with} (fun m=>⟨fun blk off cap ss W hH hblk hsz=>callsIn_wide.2 (AnyM.slices_Sort_int Tryz.sortL blk off cap ss W hH hblk hsz),fun p cap W=>callsIn_wide.2 (AnyM.slices_Sort_int_none Tryz.sortL p cap W)⟩) (enters_of Tryz.func84 (by kernel_rfl) rfl) (enters_of Tryz.func172 (by kernel_rfl) rfl) b hb
def Tryz.cloneL_ren : Go.Shelf.Ren := ⟨fun | 5 => 173 | 7 => 178 | n => n, fun | 23 => 132 | 25 => 3 | 3 => 3 | 4 => 4 | 20 => 20 | n => n, fun | n => n⟩
theorem Tryz.cloneL : Go.Proofs.SlLaysW.n5 Tryz.prog Tryz.cloneL_ren := {
 mixed := by kernel_rfl
 f5 := ⟨Tryz.f173.name, by decide, Tryz.func173.trans (congrArg some (by kernel_rfl))⟩
 f7 := Tryz.func178.trans (congrArg some (by kernel_rfl))
 t4 := Tryz.underlying4
 a4 := Tryz.isAgg4
 z4 := Tryz.sizeOf4
 v4 := Tryz.zeroValue4
 t20 := Tryz.underlying20
 a20 := Tryz.isAgg20
 z20 := Tryz.sizeOf20
 v20 := Tryz.zeroValue20
 t23 := Tryz.underlying132
 a23 := Tryz.isAgg132
 z23 := Tryz.sizeOf132
 v23 := Tryz.zeroValue132 }
theorem G3 (b:F3):Pu Tryz.prog 173 [.c (.t none (XX Tryz.prog 3 3 (some b)))] [(0,some (.bag (XX Tryz.prog 3 3 (some b))))] 1 (.c (.own 0)):=by
 exact HK Tryz.cloneL b
theorem FT (b:F3)(f1:Int)(fv:List Int)(m1:Int)(mv:List Int)(hb:b.length + fv.length≤1099511627776)(hf:∀x∈fv,s7 x)(hv:∀x∈mv,s7 x):Pu Tryz.prog 158 [.c (.t none (XX Tryz.prog 3 3 (some b))),.agg [.t none (.v (.int .i64 f1)),.t none (.sl 1 f9 fv)],.agg [.t none (.v (.int .i64 m1)),.t none (.sl 1 f9 mv)]] [] 0 (.tup [(false,[.t none (XX Tryz.prog 3 3 (LX b (f1,fv) (m1,mv)))]),(false,[.t none (.v (.bool ((LX b (f1,fv) (m1,mv)).isSome)))])]):=by
 refine u6 Tryz.func158 fun w S=>?_
 refine w9 ?_
 refine d9 (X9 0 rfl rfl rfl rfl) ?_
 refine d9 (X9 1 rfl rfl rfl rfl) ?_
 refine rA ?_
 refine rA<|c9<|k9<|w9 ?_
 refine rF 0 ?_
 refine rL ?_
 refine rF 0 ?_
 refine rL ?_
 refine rB ?_
 refine rM ?_
 refine x9 (fun g1=>?_) (fun g1=>?_)
 ·
  have g1':=l8 g1
  refine rF 1 ?_
  refine x9 (fun _=>?_) (C9 g1)
  refine rL ?_
  refine x9 (fun _=>?_) (C9 g1)
  refine d9 (S9 rfl rfl rfl) ?_
  refine x9 (fun _=>?_) (C9 g1)
  refine rF 1 ?_
  refine x9 (fun _=>?_) (C9 g1)
  refine rL ?_
  refine x9 (fun _=>?_) (C9 g1)
  refine d9 (S9 rfl rfl rfl) ?_
  refine x9 (fun _=>?_) (C9 g1)
  refine rB ?_
  refine d9 (H9 rfl rfl g1 rfl) ?_
  refine c9 ?_
  refine j9 rfl (fun h2=>?_) (fun h2=>?_)
  ·
   have h2':=j8 h2
   refine w9<|rA ?_
   refine rA<|c9 ?_
   refine ZV 6 (P:=Tryz.prog) (kt:=3) (e:=3) rfl ?_
   refine tk Tryz.func158 (.tmp rfl (.tmp rfl .nil)) ?_ <;>(try clear ih0)
   all_goals((rw [jL (by omega)];rfl))
  ·
   have h2':=l8 h2
   refine m9<|w9<|rM ?_
   refine d9 (n9 2 3 false (N9 Tryz.func173) (G3 b) rfl (.cons rfl (.c .t0) .nil) rfl rfl rfl) ?_
   refine rA<|c9<|k9<|w9 ?_
   refine rF 1 ?_
   refine rL ?_
   refine d9 (S9 rfl rfl rfl) ?_
   refine rM<|c9<|r9 ?_
   refine L9 (fun(m,acc)=>⟨[(5,some (.c (.ptr 1 0))),(8,some (.c (.own 2))),(33,some (.c (.t none (.sl 1 f9 fv)))),(34,some (.c (.t none (.v (.int .i64 ((fv.length:Int))))))),(35,some (.c (.t none (.v (.int .i64 ((m:Int)))))))],[(0,some (.box [.t none (.v (.int .i64 f1)),.t none (.sl 1 f9 fv)])),(1,some (.box [.t none (.v (.int .i64 m1)),.t none (.sl 1 f9 mv)])),(2,some (.bag (XX Tryz.prog 3 3 (some acc))))],3⟩:Nat × F3→St) (fun(m,acc)=>m≤fv.length∧CT b (fv.take m) (mv.take m)=some acc∧acc.length≤b.length + m) (fun(m,acc)=>fv.length - m) (0,b) ⟨⟨rfl,⟨rfl,⟨rfl,⟨rfl,⟨rfl,trivial⟩⟩⟩⟩⟩,⟨rfl,⟨rfl,⟨rfl,trivial⟩⟩⟩,rfl⟩ (by exact⟨Nat.zero_le _,rfl,Nat.le_refl _⟩) ?_
   rintro⟨m,acc⟩ hI ih0
   try dsimp only at hI ih0
   obtain⟨i1,i2,i3⟩:=hI;have hq1:f1=m1:=(by omega);have hq2:fv.length=mv.length:=(by omega)
   refine w9<|rB<|c9<|k9 ?_
   refine j9 rfl (fun h3=>?_) (fun h3=>?_)
   ·
    have h3':=j8 h3
    refine m9<|k9<|r9<|w9<|rM ?_
    obtain⟨z4,hz5,b6⟩:=t9 (xs:=fv) (n:=(m:Int)) (by omega) (by omega)
    refine d9 (P9 rfl (by kernel_rfl) rfl rfl b6 hz5) ?_
    refine d9 (c8 rfl (by kernel_rfl) rfl rfl) ?_
    refine rA ?_
    refine rA<|o7 ?_
    refine rF 1 ?_
    refine rL ?_
    refine rM ?_
    obtain⟨z7,hz8,b9⟩:=t9 (xs:=mv) (n:=(m:Int)) (by omega) (by omega)
    refine d9 (P9 rfl (by kernel_rfl) rfl rfl b9 hz8) ?_
    refine d9 (c8 rfl (by kernel_rfl) rfl rfl) ?_
    refine rA<|o7 ?_
    refine rM ?_
    refine d9 (n9 3 3 false (N9 Tryz.func64) (f5 z4 (by exact(hf _ (J8 (by assumption))).1) (by exact(hf _ (J8 (by assumption))).2)) rfl (.cons rfl (.c .t0) .nil) rfl rfl rfl) ?_
    refine rM ?_
    refine d9 (O9 rfl rfl rfl rfl) ?_
    refine d9 (O9 rfl rfl rfl rfl) ?_
    refine rA ?_
    refine rA<|c9<|k9<|w9 ?_
    refine rM ?_
    refine d9 (Q8 rfl rfl) ?_
    refine c9 ?_
    refine j9 rfl (fun h10=>?_) (fun h10=>?_)
    ·
     have h10':=l8 (P4 h10)
     refine k9<|w9<|rM ?_
     refine rM ?_
     refine rB<|c9 ?_
     refine j9 rfl (fun h11=>?_) (fun h11=>?_)
     ·
      have h11':=j8 h11
      refine w9<|rA ?_
      refine rA<|c9 ?_
      refine ZV 6 (P:=Tryz.prog) (kt:=3) (e:=3) rfl ?_
      refine tk Tryz.func158 (.tmp rfl (.tmp rfl .nil)) ?_ <;>(try clear ih0)
      all_goals((rw [NP hq1 hq2,OQ hq2 i2 hz5 hz8 (aI (by assumption) (by assumption))];rfl))
     ·
      have h11':=l8 h11
      refine m9<|R9 rfl<|l9<|rB ?_
      refine rM<|c9 ?_
      refine n8 ?_ (ih0 (m + 1,acc) (by(try dsimp only);omega) (by(try dsimp only);exact⟨by omega,HU hq2 i2 hz5 hz8 (qH (by assumption) (by omega)),by omega⟩))
      exact⟨⟨rfl,⟨rfl,⟨rfl,⟨rfl,⟨(i6 (s8 (by omega) (by omega))),trivial⟩⟩⟩⟩⟩,⟨rfl,⟨rfl,⟨rfl,trivial⟩⟩⟩,rfl⟩
    ·
     have h10':=j8 (O4 h10)
     refine m9<|k9<|w9<|rM ?_
     refine rM ?_
     refine d9 (AL rfl ⟨Tryz.underlying3,Tryz.underlying3,Tryz.underlying132,by kernel_rfl⟩ rfl rfl rfl (by(unfold s7;split <;> omega))) ?_
     refine rM ?_
     refine d9 (O9 rfl rfl rfl rfl) ?_
     refine d9 (O9 rfl rfl rfl rfl) ?_
     refine rA ?_
     refine rA<|o7 ?_
     refine rM ?_
     refine rM ?_
     refine x9 (fun g12=>?_) (fun g12=>?_)
     ·
      have g12':=g12
      refine rM ?_
      refine x9 (fun _=>?_) (nc g12)
      refine rM ?_
      refine x9 (fun _=>?_) (nc g12)
      refine rB ?_
      refine d9 (M9 rfl rfl g12 rfl) ?_
      refine c9 ?_
      refine j9 rfl (fun h13=>?_) (fun h13=>?_)
      ·
       have h13':=j8 h13
       refine w9<|rA ?_
       refine rA<|c9 ?_
       refine ZV 6 (P:=Tryz.prog) (kt:=3) (e:=3) rfl ?_
       refine tk Tryz.func158 (.tmp rfl (.tmp rfl .nil)) ?_ <;>(try clear ih0)
       all_goals((rw [NP hq1 hq2,OQ hq2 i2 hz5 hz8 (NI (k:=if -40≤z4∧z4≤ -1 then -1 - z4 else 0) (by assumption) (if_pos (by assumption)) (by assumption) (by assumption))];rfl))
      ·
       have h13':=l8 h13
       refine m9<|l9<|rM ?_
       refine rM ?_
       refine rM ?_
       refine d9 (sQ ⟨Tryz.underlying3,Tryz.underlying3,Tryz.underlying132,by kernel_rfl⟩ rfl rfl rfl rfl (by(unfold s7;split <;> omega)) (by exact hv _ (J8 (by assumption))) (by omega)) ?_
       refine c9<|i9<|l9<|rB ?_
       refine rM<|c9 ?_
       refine n8 ?_ (ih0 (m + 1,(if -40≤z4∧z4≤ -1 then -1 - z4 else 0,z7)::acc) (by(try dsimp only);omega) (by(try dsimp only);exact⟨by omega,HU hq2 i2 hz5 hz8 (dL (by assumption) (if_pos (by assumption)) (fun _=>by omega)),by(simp only [List.length_cons];omega)⟩))
       exact⟨⟨rfl,⟨rfl,⟨rfl,⟨rfl,⟨(i6 (s8 (by omega) (by omega))),trivial⟩⟩⟩⟩⟩,⟨rfl,⟨rfl,⟨rfl,trivial⟩⟩⟩,rfl⟩
     ·
      have g12':=g12
      refine x9 (C9 g12) (fun _=>?_)
      refine x9 (C9 g12) (fun _=>?_)
      refine d9 (H9 rfl rfl g12 rfl) ?_
      refine c9 ?_
      refine j9 rfl (C9 rfl) (fun _=>?_)
      refine m9<|l9<|rM ?_
      refine rM ?_
      refine rM ?_
      refine d9 (sQ ⟨Tryz.underlying3,Tryz.underlying3,Tryz.underlying132,by kernel_rfl⟩ rfl rfl rfl rfl (by(unfold s7;split <;> omega)) (by exact hv _ (J8 (by assumption))) (by omega)) ?_
      refine c9<|i9<|l9<|rB ?_
      refine rM<|c9 ?_
      refine n8 ?_ (ih0 (m + 1,(if -40≤z4∧z4≤ -1 then -1 - z4 else 0,z7)::acc) (by(try dsimp only);omega) (by(try dsimp only);exact⟨by omega,HU hq2 i2 hz5 hz8 (dL (by assumption) (if_pos (by assumption)) (fun e=>nc e (by assumption))),by(simp only [List.length_cons];omega)⟩))
      exact⟨⟨rfl,⟨rfl,⟨rfl,⟨rfl,⟨(i6 (s8 (by omega) (by omega))),trivial⟩⟩⟩⟩⟩,⟨rfl,⟨rfl,⟨rfl,trivial⟩⟩⟩,rfl⟩
   ·
    have h3':=l8 h3
    refine R9 rfl<|w9<|rM ?_
    refine rA ?_
    refine rA<|c9 ?_
    refine cO 2 rfl (K9 rfl) ?_
    refine tk Tryz.func158 (.tmp rfl (.tmp rfl .nil)) ?_ <;>(try clear ih0)
    all_goals((rw [NP hq1 hq2,DJ hq2 i2 (by omega)];try rfl))
 ·
  have g1':=j8 g1
  refine x9 (nc g1) (fun _=>?_)
  refine x9 (nc g1) (fun _=>?_)
  refine x9 (nc g1) (fun _=>?_)
  refine x9 (nc g1) (fun _=>?_)
  refine x9 (nc g1) (fun _=>?_)
  refine x9 (nc g1) (fun _=>?_)
  refine d9 (M9 rfl rfl g1 rfl) ?_
  refine c9 ?_
  refine j9 rfl (fun _=>?_) (nc rfl)
  refine w9<|rA ?_
  refine rA<|c9 ?_
  refine ZV 6 (P:=Tryz.prog) (kt:=3) (e:=3) rfl ?_
  refine tk Tryz.func158 (.tmp rfl (.tmp rfl .nil)) ?_ <;>(try clear ih0)
  all_goals((rw [jL (by omega)];rfl))
theorem JV:∀(n:Nat) (fs fs2:p9) (b:F3) (hb:b.length + l7 (fun(x:Int ×(List Int))=>x.2.length) fs≤1099511627776) (hk:∀p∈b,s7 p.1) (hfs2:l7 (fun(x:Int ×(List Int))=>x.2.length) fs2≤1048576) (ho:∀z∈fs,∀x∈z.2,s7 x) (ho2:∀z∈fs2,∀x∈z.2,s7 x) (hn:fs.length=n),kH Tryz.prog 122 [.c (.t none (.sl 2 (E9 f9 (B9 1 f9)) fs)),.c (.t none (.sl 2 (E9 f9 (B9 1 f9)) fs2)),.c (.t none (XX Tryz.prog 3 3 (some b))),.c (.clo 123 [(0,0),(1,0)])] [.t none (.v (.int .i64 1))] [.t none (.v (.int .i64 1))] 66 2 JQ [] (nY (X2 fs2 fs b).isSome) 3 (.t none (.v (.bool ((X2 fs2 fs b).isSome)))):=by
 refine bO fun n ih=>?_
 intro fs fs2 b hb hk hfs2 ho ho2 hn
 have rec_:∀(fs fs2:p9) (b:F3) (hdec:fs.length < n) (hb:b.length + l7 (fun(x:Int ×(List Int))=>x.2.length) fs≤1099511627776) (hk:∀p∈b,s7 p.1) (hfs2:l7 (fun(x:Int ×(List Int))=>x.2.length) fs2≤1048576) (ho:∀z∈fs,∀x∈z.2,s7 x) (ho2:∀z∈fs2,∀x∈z.2,s7 x),kH Tryz.prog 122 [.c (.t none (.sl 2 (E9 f9 (B9 1 f9)) fs)),.c (.t none (.sl 2 (E9 f9 (B9 1 f9)) fs2)),.c (.t none (XX Tryz.prog 3 3 (some b))),.c (.clo 123 [(0,0),(1,0)])] [.t none (.v (.int .i64 1))] [.t none (.v (.int .i64 1))] 66 2 JQ [] (nY (X2 fs2 fs b).isSome) 3 (.t none (.v (.bool ((X2 fs2 fs b).isSome)))):=fun fs fs2 b hdec hb hk hfs2 ho ho2=>ih _ hdec fs fs2 b hb hk hfs2 ho ho2 rfl
 intro U
 refine AY Tryz.func122 rfl (Nat.le_of_ble_eq_true rfl) fun w S M=>?_
 have gl:=L8 (f:=(fun(x:Int ×(List Int))=>x.2.length)) (l:=fs);have gl2:=L8 (f:=(fun(x:Int ×(List Int))=>x.2.length)) (l:=fs2);have kl:=sM b
 refine w9<|rA<|c9<|k9<|w9 ?_
 refine rM ?_
 refine d9 (S9 rfl rfl rfl) ?_
 refine rB<|c9 ?_
 refine j9 rfl (fun h1=>?_) (fun h1=>?_)
 ·
  have h1':=j8 h1
  refine w9<|rM ?_
  refine d9 (n9 3 3 true (N9 Tryz.func157) (O3 b) rfl (.cons rfl (.c .t0) .nil) rfl rfl rfl) ?_
  refine d9 (n9 3 4 false (N9 Tryz.func156) (XY b (by omega)) rfl (.cons rfl (.c .t0) .nil) rfl rfl rfl) ?_
  refine d9 (oD [(0,1),(1,1)] [.slice none 0 0,.slice none 0 0]) ?_
  refine d9 (I9 4 (zs:=[.slice none 0 0,.slice none 0 0]) rfl rfl (by kernel_rfl) rfl) ?_
  refine rS 2<|c9<|k9<|w9 ?_
  refine rF 0 ?_
  refine rL ?_
  refine d9 (M7 rfl rfl rfl rfl) ?_
  refine rM<|c9<|r9 ?_
  refine I6 5 (b:=4) (o:=1) (et:=3) (sz:=1) true f9 rfl rfl rfl ?_
  refine L9 (fun m=>⟨[(0,some (.c (.t none (.sl 2 (E9 f9 (B9 1 f9)) fs)))),(1,some (.c (.t none (.sl 2 (E9 f9 (B9 1 f9)) fs2)))),(2,some (.c (.t none (XX Tryz.prog 3 3 (some b))))),(3,some (.c (.clo 123 [(0,0),(1,0)]))),(8,some (.c (.t none (.v (.bool false))))),(9,some (.c (.ptr 4 0))),(24,some (.c (.own 3))),(25,some (.c (.t none (.v (.int .i64 (((Y0 b).length:Int))))))),(26,some (.c (.t none (.v (.int .i64 ((m:Int)))))))],[(0,some (.pbox (U 0) [.own 2])),(1,some (.pbox (U 1) [.t none (.v (.int .i64 1))])),(2,some (.row none 66 false 2 JQ ([]))),(3,some (.row none 3 true 1 f9 (Y0 b))),(4,some (.box [.own 3,.own 5])),(5,some (.row none 3 true 1 f9 (((Y0 b).take m).map (fun k=>(MX b k).getD 0))))],6⟩:Nat→St) (fun m=>m≤(Y0 b).length) (fun m=>(Y0 b).length - m) 0 ⟨⟨rfl,⟨rfl,⟨rfl,⟨rfl,⟨rfl,⟨rfl,⟨rfl,⟨rfl,⟨rfl,trivial⟩⟩⟩⟩⟩⟩⟩⟩⟩,⟨rfl,⟨rfl,⟨rfl,⟨rfl,⟨rfl,⟨rfl,trivial⟩⟩⟩⟩⟩⟩,rfl⟩ (by exact Nat.zero_le _) ?_
  rintro m hI ih0
  try dsimp only at hI ih0
  have i1:=hI
  refine w9<|rB<|c9<|k9 ?_
  refine j9 rfl (fun h2=>?_) (fun h2=>?_)
  ·
   have h2':=j8 h2
   refine m9<|k9<|r9<|w9 ?_
   obtain⟨z3,hz4,b5⟩:=t9 (xs:=Y0 b) (n:=(m:Int)) (by omega) (by omega)
   refine d9 (t8 rfl (by kernel_rfl) rfl rfl rfl b5 (f8 b5 hz4)) ?_
   refine d9 (p8 rfl (by kernel_rfl) rfl rfl rfl hz4) ?_
   refine rA<|dJ ?_
   refine rF 1 ?_
   refine rL ?_
   refine rM ?_
   refine rM ?_
   refine d9 (nH rfl ⟨Tryz.underlying3,Tryz.underlying3,Tryz.underlying132,by kernel_rfl⟩ rfl rfl (by(obtain⟨q,hq,e⟩:=UN (J8 (by assumption));rw [← e];exact hk q hq))) ?_
   refine d9 (G8 6 (e:=3) (sz:=1) (zs:=[.int .i64 0]) rfl rfl (by kernel_rfl) rfl rfl rfl rfl rfl) ?_
   refine d9 (i8 5 (e:=3) (sz:=1) (by':=8) ((MX b z3).getD 0) rfl (by kernel_rfl) rfl rfl rfl rfl rfl rfl (.cons .sc .nil) rfl (by(simp only [List.length_map,List.length_take,List.length_drop,List.length_nil];omega)) (by(simp only [List.length_map,List.length_take,List.length_drop,List.length_nil];omega))) ?_
   refine rF 1 ?_
   refine rS 1<|c9<|i9<|l9 ?_
   refine rB ?_
   refine rM<|c9 ?_
   refine n8 ?_ (ih0 (m + 1) (by(try dsimp only);omega) (by(try dsimp only);omega))
   exact⟨⟨rfl,⟨rfl,⟨rfl,⟨rfl,⟨rfl,⟨rfl,⟨rfl,⟨rfl,⟨(i6 (s8 (by omega) (by omega))),trivial⟩⟩⟩⟩⟩⟩⟩⟩⟩,⟨rfl,⟨rfl,⟨rfl,⟨rfl,⟨rfl,⟨(E7 (FK (f:=fun k=>(MX b k).getD 0) hz4 rfl)),trivial⟩⟩⟩⟩⟩⟩,rfl⟩
  ·
   have h2':=l8 h2
   refine R9 rfl<|w9<|rM ?_
   refine rC 2 ?_
   refine cG 40 rfl ?_
   refine d9 (nL 0 1 2 (cargs:=[.agg [.t none tA,.t none tA]]) (pv:=some (U 0)) (qv:=some (U 1)) ([]++[()]) (N9 Tryz.func123) (NZ) rfl rfl rfl rfl rfl rfl rfl rfl rfl rfl rfl (.agg rfl (.cons .t0 (.cons .t0 .nil)) .nil)) ?_
   refine rA<|c9 ?_
   refine ER Tryz.func122 (.tmp rfl .nil) ?_ (hL:=⟨rfl,⟨rfl,⟨E7 ?_,trivial⟩⟩⟩) <;>(try clear ih0) <;>(try clear ih1)
   all_goals(first | exact rI (DQ (by assumption)) | (rw [DQ (by assumption)];done))
 ·
  have h1':=l8 h1
  refine m9<|k9<|w9<|rM ?_
  refine d9 (S9 rfl rfl rfl) ?_
  refine rM<|c9<|r9 ?_
  refine L9 (fun m=>⟨[(0,some (.c (.t none (.sl 2 (E9 f9 (B9 1 f9)) fs)))),(1,some (.c (.t none (.sl 2 (E9 f9 (B9 1 f9)) fs2)))),(2,some (.c (.t none (XX Tryz.prog 3 3 (some b))))),(3,some (.c (.clo 123 [(0,0),(1,0)]))),(42,some (.c (.t none (.sl 2 (E9 f9 (B9 1 f9)) fs2)))),(43,some (.c (.t none (.v (.int .i64 ((fs2.length:Int))))))),(44,some (.c (.t none (.v (.int .i64 ((m:Int)))))))],[(0,some (.pbox (U 0) [.own 2])),(1,some (.pbox (U 1) [.t none (.v (.int .i64 1))])),(2,some (.row none 66 false 2 JQ ([])))],3⟩:Nat→St) (fun m=>m≤fs2.length∧∀z,fs[0]? =some z→(fs2.take m).findSome? (fun im=>(LX b z im).bind (X2 fs2 (fs.drop 1)))=none) (fun m=>fs2.length - m) 0 ⟨⟨rfl,⟨rfl,⟨rfl,⟨rfl,⟨rfl,⟨rfl,⟨rfl,trivial⟩⟩⟩⟩⟩⟩⟩,⟨rfl,⟨rfl,⟨rfl,trivial⟩⟩⟩,rfl⟩ (by exact⟨Nat.zero_le _,fun z hz=>rfl⟩) ?_
  rintro m hI ih1
  try dsimp only at hI ih1
  obtain⟨i1,i2⟩:=hI
  refine w9<|rB<|c9<|k9 ?_
  refine j9 rfl (fun h6=>?_) (fun h6=>?_)
  ·
   have h6':=j8 h6
   refine m9<|k9<|r9<|w9 ?_
   obtain⟨z7,hz8,b9⟩:=t9 (xs:=fs2) (n:=(m:Int)) (by omega) (by omega)
   refine d9 (P9 rfl (by kernel_rfl) rfl rfl b9 hz8) ?_
   refine d9 (A6 rfl (n:=2) (by kernel_rfl) (by kernel_rfl) rfl rfl) ?_
   refine d9 (I9 3 (zs:=[.int .i64 0,.slice none 0 0]) rfl rfl (by kernel_rfl) rfl) ?_
   refine rS 2<|c9<|k9 ?_
   refine tY ?_
   refine dT 0 rfl pM ?_
   refine dT 1 rfl pM ?_
   obtain⟨z10,hz11,b12⟩:=t9 (xs:=fs) (n:=0) (by omega) (by omega)
   refine dT 2 rfl (w8 (by kernel_rfl) rfl rfl b12 hz11) ?_
   refine dT 3 rfl (p6 (n:=2) (by kernel_rfl) (by kernel_rfl) rfl rfl) ?_
   refine dT 4 rfl (pC 2) ?_
   refine dO 5 rfl (n9 4 4 true (N9 Tryz.func158) (FT b z10.1 z10.2 z7.1 z7.2 (by(have e1:=PX (f:=(fun(x:Int ×(List Int))=>x.2.length)) (l:=fs) (List.mem_of_getElem? (l:=fs) (i:=0) (by assumption));(try dsimp only at e1);omega)) (by exact ho _ (List.mem_of_getElem? (l:=fs) (i:=0) (by assumption))) (by exact ho2 _ (List.mem_of_getElem? (l:=fs2) (by assumption)))) rfl (.cons rfl (.c .t0) (.cons rfl (.agg (.cons .t0 (.cons .t0 .nil))) (.cons rfl (.agg (.cons .t0 (.cons .t0 .nil))) .nil))) rfl rfl rfl) ?_
   refine dT 6 rfl pM ?_
   refine dT 7 rfl (G4 rfl rfl rfl) ?_
   refine dT 8 rfl (G4 rfl rfl rfl) ?_
   refine dT 9 rfl pA ?_
   refine dT 10 rfl pA ?_
   refine dE ?_
   refine w9<|rM ?_
   refine rM ?_
   refine x9 (fun g13=>?_) (fun g13=>?_)
   ·
    have g13':=g13
    refine rM ?_
    refine x9 (fun _=>?_) (nc g13)
    refine d9 (AI rfl (by kernel_rfl) rfl (.l rfl (by omega) (by omega))) ?_
    refine x9 (fun _=>?_) (nc g13)
    refine rM ?_
    refine x9 (fun _=>?_) (nc g13)
    refine rM ?_
    refine x9 (fun _=>?_) (nc g13)
    refine rM ?_
    refine x9 (fun _=>?_) (nc g13)
    refine vG 62 rfl (jV (by assumption)) ?_
    refine d9 (OO 0 1 2 (pv:=some (U 0)) (qv:=some (U 1)) (nY (X2 fs2 ((fs.take fs.length).drop ((1:Int)).toNat) ((LX b (z10.1,z10.2) (z7.1,z7.2)).getD [])).isSome) (N9 Tryz.func122) (rec_ ((fs.take fs.length).drop ((1:Int)).toNat) fs2 ((LX b (z10.1,z10.2) (z7.1,z7.2)).getD []) (by(rw [NH,List.length_drop];omega)) (by(rw [NH];have e2:=zM (by assumption);have e3:=zL (f:=(fun(x:Int ×(List Int))=>x.2.length)) (l:=fs) (by assumption);(try dsimp only at e2 e3);omega)) (by exact uK (by assumption) hk) (by omega) (by exact fun z hz=>ho z (List.mem_of_mem_drop (i:=1) (by rw [NH] at hz;exact hz))) (by omega)) rfl rfl rfl rfl rfl rfl rfl rfl rfl rfl (.cons rfl .t0 (.cons rfl .t0 (.cons rfl .t0 (.cons rfl .clo .nil))))) ?_
    refine d9 (M9 rfl rfl g13 rfl) ?_
    refine c9 ?_
    refine j9 rfl (fun h14=>?_) (fun h14=>?_)
    ·
     have h14':=h14
     refine w9<|rA<|c9 ?_
     refine ER Tryz.func122 (.tmp rfl .nil) ?_ (hL:=⟨rfl,⟨rfl,⟨E7 ?_,trivial⟩⟩⟩) <;>(try clear ih0) <;>(try clear ih1)
     all_goals(first | exact mI (by assumption) (wN hz11 hz8 (by assumption) (by rw [← NH];assumption)) | (rw [wN hz11 hz8 (by assumption) (by rw [← NH];assumption)];done))
    ·
     have h14':=h14
     refine m9<|i9<|l9<|rB ?_
     refine rM<|c9 ?_
     refine n8 ?_ (ih1 (m + 1) (by(try dsimp only);omega) (by(try dsimp only);exact⟨by omega,fun z hz=>mP (i2 z hz) hz8 rfl (by obtain rfl:=Option.some.inj (hz.symm.trans hz11);exact fJ (by assumption) (by rw [← NH];assumption))⟩))
     exact⟨⟨rfl,⟨rfl,⟨rfl,⟨rfl,⟨rfl,⟨rfl,⟨(i6 (s8 (by omega) (by omega))),trivial⟩⟩⟩⟩⟩⟩⟩,⟨rfl,⟨rfl,⟨(E7 (BH (by assumption))),trivial⟩⟩⟩,rfl⟩
   ·
    have g13':=g13
    refine x9 (C9 g13) (fun _=>?_)
    refine x9 (C9 g13) (fun _=>?_)
    refine x9 (C9 g13) (fun _=>?_)
    refine x9 (C9 g13) (fun _=>?_)
    refine x9 (C9 g13) (fun _=>?_)
    refine d9 (H9 rfl rfl g13 rfl) ?_
    refine c9 ?_
    refine j9 rfl (C9 rfl) (fun _=>?_)
    refine m9<|i9<|l9<|rB ?_
    refine rM<|c9 ?_
    refine n8 ?_ (ih1 (m + 1) (by(try dsimp only);omega) (by(try dsimp only);exact⟨by omega,fun z hz=>mP (i2 z hz) hz8 rfl (by obtain rfl:=Option.some.inj (hz.symm.trans hz11);exact lI (by assumption))⟩))
    exact⟨⟨rfl,⟨rfl,⟨rfl,⟨rfl,⟨rfl,⟨rfl,⟨(i6 (s8 (by omega) (by omega))),trivial⟩⟩⟩⟩⟩⟩⟩,⟨rfl,⟨rfl,⟨rfl,trivial⟩⟩⟩,rfl⟩
  ·
   have h6':=l8 h6
   refine R9 rfl<|w9<|rA<|c9 ?_
   refine ER Tryz.func122 (.tmp rfl .nil) ?_ (hL:=⟨rfl,⟨rfl,⟨E7 ?_,trivial⟩⟩⟩) <;>(try clear ih0) <;>(try clear ih1)
   all_goals((rw [OM (b:=b) (by assumption) i2 (by omega)];try rfl))
theorem PT (fs fs2:p9)(b:F3)(hb:b.length + l7 (fun(x:Int ×(List Int))=>x.2.length) fs≤1099511627776)(hk:∀p∈b,s7 p.1)(hfs2:l7 (fun(x:Int ×(List Int))=>x.2.length) fs2≤1048576)(ho:∀z∈fs,∀x∈z.2,s7 x)(ho2:∀z∈fs2,∀x∈z.2,s7 x):kH Tryz.prog 122 [.c (.t none (.sl 2 (E9 f9 (B9 1 f9)) fs)),.c (.t none (.sl 2 (E9 f9 (B9 1 f9)) fs2)),.c (.t none (XX Tryz.prog 3 3 (some b))),.c (.clo 123 [(0,0),(1,0)])] [.t none (.v (.int .i64 1))] [.t none (.v (.int .i64 1))] 66 2 JQ [] (nY (X2 fs2 fs b).isSome) 3 (.t none (.v (.bool ((X2 fs2 fs b).isSome)))):=JV _ fs fs2 b hb hk hfs2 ho ho2 rfl
theorem NY (rs:V9)(fs:p9)(rs2:V9)(fs2:p9)(hrs:rs.length≤1048576)(hfs:l7 (fun(x:Int ×(List Int))=>x.2.length) fs≤1048576)(ho:∀z∈fs,∀x∈z.2,s7 x)(hrs2:rs2.length≤1048576)(hfs2:l7 (fun(x:Int ×(List Int))=>x.2.length) fs2≤1048576)(ho2:∀z∈fs2,∀x∈z.2,s7 x):Pu Tryz.prog 86 [.agg [.t none (.sl 3 (d8 Z9 f9 a8) rs),.t none (.sl 2 (E9 f9 (B9 1 f9)) fs)],.agg [.t none (.sl 3 (d8 Z9 f9 a8) rs2),.t none (.sl 2 (E9 f9 (B9 1 f9)) fs2)],.c (.t none (.v (.int .i64 1)))] [] 0 (.c (.t none (.sl 2 JQ (nY (EW rs fs rs2 fs2))))):=by
 refine u6 Tryz.func86 fun w S=>?_
 refine w9 ?_
 refine d9 (X9 0 rfl rfl rfl rfl) ?_
 refine d9 (X9 1 rfl rfl rfl rfl) ?_
 refine d9 (X9 2 rfl rfl rfl rfl) ?_
 refine rA<|o7 ?_
 refine d9 (C7 3 (e:=66) (sz:=2) (zs:=[.slice none 0 0,.slice none 0 0]) (E9 (B9 1 f9) (B9 1 f9)) rfl rfl (by kernel_rfl) rfl) ?_
 refine d9 (I9 4 (zs:=[.slice none 0 0]) rfl rfl (by kernel_rfl) rfl) ?_
 refine rS 1<|c9<|k9<|k9 ?_
 refine zH 3 JQ rfl ?_
 refine l9<|rC 2 ?_
 refine rC 2 ?_
 refine d9 (n9 5 5 false (N9 Tryz.func121) (VY rs fs rs2 fs2 (by omega) (by omega) (by omega) (by omega) (by omega) (by omega)) rfl (.cons rfl (.agg (.cons .t0 (.cons .t0 .nil))) (.cons rfl (.agg (.cons .t0 (.cons .t0 .nil))) .nil)) rfl rfl rfl) ?_
 refine c9 ?_
 refine j9 rfl (fun h1=>?_) (fun h1=>?_)
 ·
  have h1':=h1
  try simp only [decide_eq_true_eq,decide_eq_false_iff_not,Bool.not_eq_true',Bool.not_eq_false',Bool.not_false,Bool.not_true] at h1'
  refine l9<|rF 1 ?_
  refine rL ?_
  refine rF 1 ?_
  refine rL ?_
  refine d9 (FN 5 (kt:=3) (e:=3) rfl rfl ⟨Tryz.underlying3,Tryz.underlying3,Tryz.underlying132,by kernel_rfl⟩) ?_
  refine d9 (m0 rfl (.cons rfl (.cons rfl .nil))) ?_
  refine DN 5 rfl (K9 rfl) ?_
  refine d9 (OO 4 2 3 (pv:=none) (qv:=none) (nY (X2 fs2 fs ([])).isSome) (N9 Tryz.func122) (PT fs fs2 ([]) (by(simp only [List.length_nil];omega)) (by exact fun p hp=>absurd hp (by simp)) (by omega) (by omega) (by omega)) rfl rfl rfl rfl rfl rfl rfl rfl rfl rfl (.cons rfl .t0 (.cons rfl .t0 (.cons rfl .t0 (.cons rfl .clo .nil))))) ?_
  refine o7<|rL ?_
  refine rA<|c9 ?_
  refine o9 3 rfl (K9 rfl) ?_
  refine tk Tryz.func86 (.tmp rfl .nil) ?_
  all_goals((rw [pI (by assumption)];rfl))
 ·
  have h1':=h1
  try simp only [decide_eq_true_eq,decide_eq_false_iff_not,Bool.not_eq_true',Bool.not_eq_false',Bool.not_false,Bool.not_true] at h1'
  refine m9<|w9<|rL ?_
  refine rA<|c9 ?_
  refine o9 3 rfl (K9 rfl) ?_
  refine tk Tryz.func86 (.tmp rfl .nil) ?_
  all_goals((rw [oH (by assumption)];rfl))
theorem rZ (rs:V9)(fs:p9)(rs2:V9)(fs2:p9)(hrs:rs.length≤1048576)(hfs:l7 (fun(x:Int ×(List Int))=>x.2.length) fs≤1048576)(ho:∀z∈fs,∀x∈z.2,s7 x)(hrs2:rs2.length≤1048576)(hfs2:l7 (fun(x:Int ×(List Int))=>x.2.length) fs2≤1048576)(ho2:∀z∈fs2,∀x∈z.2,s7 x):Pu Tryz.prog 41 [.agg [.t none (.sl 3 (d8 Z9 f9 a8) rs),.t none (.sl 2 (E9 f9 (B9 1 f9)) fs)],.agg [.t none (.sl 3 (d8 Z9 f9 a8) rs2),.t none (.sl 2 (E9 f9 (B9 1 f9)) fs2)]] [] 0 (.tup [(true,[.t none tA,.t none tA]),(false,[.t none (.v (.bool (EW rs fs rs2 fs2)))])]):=by
 refine u6 Tryz.func41 fun w S=>?_
 refine w9 ?_
 refine d9 (X9 0 rfl rfl rfl rfl) ?_
 refine d9 (X9 1 rfl rfl rfl rfl) ?_
 refine d9 (I9 2 (zs:=[.slice none 0 0,.slice none 0 0]) rfl rfl (by kernel_rfl) rfl) ?_
 refine rA<|o7 ?_
 refine rC 2 ?_
 refine rC 2 ?_
 refine d9 (n9 3 3 true (N9 Tryz.func86) (NY rs fs rs2 fs2 (by omega) (by omega) (by omega) (by omega) (by omega) (by omega)) rfl (.cons rfl (.agg (.cons .t0 (.cons .t0 .nil))) (.cons rfl (.agg (.cons .t0 (.cons .t0 .nil))) (.cons rfl (.c .t0) .nil))) rfl rfl rfl) ?_
 refine rA<|c9<|k9<|w9 ?_
 refine rM ?_
 refine d9 (S9 rfl rfl rfl) ?_
 refine rB<|c9 ?_
 refine j9 rfl (fun h1=>?_) (fun h1=>?_)
 ·
  have h1':=j8 h1
  refine w9 ?_
  refine d9 (oD [(0,1),(1,1)] [.slice none 0 0,.slice none 0 0]) ?_
  refine rS 2 ?_
  refine rA<|c9 ?_
  refine QJ 2 rfl ?_
  refine tk Tryz.func41 (r8 2 (.tmp rfl .nil)) ?_
  all_goals((have e9:EW rs fs rs2 fs2=false:=jI.1 (by assumption);rw [e9];try rfl))
 ·
  have h1':=l8 h1
  refine m9<|w9<|rM ?_
  obtain⟨z2,hz3,b4⟩:=t9 (xs:=nY (EW rs fs rs2 fs2)) (n:=0) (by omega) (by omega)
  refine d9 (P9 rfl (by kernel_rfl) rfl rfl b4 hz3) ?_
  refine d9 (A6 rfl (n:=2) (by kernel_rfl) (by kernel_rfl) rfl rfl) ?_
  refine rS 2 ?_
  refine rA<|c9 ?_
  refine tk Tryz.func41 (r8 2 (.tmp rfl .nil)) ?_
  all_goals((have e9:EW rs fs rs2 fs2=true:=(MM (by assumption)).1;rw [e9];try rfl))
theorem UZ (rs:V9)(fs:p9)(rs2:V9)(fs2:p9)(hrs:rs.length≤1048576)(hfs:l7 (fun(x:Int ×(List Int))=>x.2.length) fs≤1048576)(ho:∀z∈fs,∀x∈z.2,s7 x)(hrs2:rs2.length≤1048576)(hfs2:l7 (fun(x:Int ×(List Int))=>x.2.length) fs2≤1048576)(ho2:∀z∈fs2,∀x∈z.2,s7 x):Pu Tryz.prog 11 [.agg [.t none (.sl 3 (d8 Z9 f9 a8) rs),.t none (.sl 2 (E9 f9 (B9 1 f9)) fs)],.agg [.t none (.sl 3 (d8 Z9 f9 a8) rs2),.t none (.sl 2 (E9 f9 (B9 1 f9)) fs2)]] [] 0 (.c (.t none (.v (.bool (EW rs fs rs2 fs2))))):=by
 refine u6 Tryz.func11 fun w S=>?_
 refine w9 ?_
 refine d9 (X9 0 rfl rfl rfl rfl) ?_
 refine d9 (X9 1 rfl rfl rfl rfl) ?_
 refine rA<|o7 ?_
 refine rC 2 ?_
 refine rC 2 ?_
 refine d9 (n9 2 2 true (N9 Tryz.func41) (rZ rs fs rs2 fs2 (by omega) (by omega) (by omega) (by omega) (by omega) (by omega)) rfl (.cons rfl (.agg (.cons .t0 (.cons .t0 .nil))) (.cons rfl (.agg (.cons .t0 (.cons .t0 .nil))) .nil)) rfl rfl rfl) ?_
 refine rM ?_
 refine d9 (O9 rfl rfl rfl rfl) ?_
 refine d9 (O9 rfl rfl rfl rfl) ?_
 refine d9 (I9 2 (zs:=[.slice none 0 0,.slice none 0 0]) rfl rfl (by kernel_rfl) rfl) ?_
 refine rS 2 ?_
 refine rA<|o7 ?_
 refine rM ?_
 refine rA<|c9 ?_
 refine tk Tryz.func11 (.tmp rfl .nil) ?_
 all_goals rfl
theorem yW (r:Int)(ts:List Int)(z:V9 × p9)(hfs:l7 (fun(x:Int ×(List Int))=>x.2.length) z.2≤1048576)(hts:ts.length≤1048576):Pu Tryz.prog 47 [.agg [.t none (.v (.int .i64 r)),.t none (.sl 1 f9 ts)],.c (.pel none ((E9 (B9 3 (d8 Z9 f9 a8)) (B9 2 (E9 f9 (B9 1 f9)))) z) 2)] [] 0 (.c (.t none (.v (.bool (!(sU z.2 (r,ts))))))):=by
 refine u6 Tryz.func47 fun w S=>?_
 refine w9 ?_
 refine d9 (X9 0 rfl rfl rfl rfl) ?_
 refine rA<|o7 ?_
 refine d9 (K1 rfl (off:=1) (by kernel_rfl) rfl) ?_
 refine d9 (c8 rfl (by kernel_rfl) rfl rfl) ?_
 refine rC 2 ?_
 refine d9 (n9 1 1 false (N9 Tryz.func48) (GY z.2 r ts (by omega) (by omega)) rfl (.cons rfl (.c .t0) (.cons rfl (.agg (.cons .t0 (.cons .t0 .nil))) .nil)) rfl rfl rfl) ?_
 refine d9 (Q8 rfl rfl) ?_
 refine rA<|c9 ?_
 refine tk Tryz.func47 (.tmp rfl .nil) ?_
 all_goals rfl
theorem IV (rs:V9)(fs:p9)(rs2:V9)(fs2:p9)(hfs:l7 (fun(x:Int ×(List Int))=>x.2.length) fs≤1048576)(hfs2:l7 (fun(x:Int ×(List Int))=>x.2.length) fs2≤1048576):Pu Tryz.prog 13 [.agg [.t none (.sl 3 (d8 Z9 f9 a8) rs),.t none (.sl 2 (E9 f9 (B9 1 f9)) fs)],.agg [.t none (.sl 3 (d8 Z9 f9 a8) rs2),.t none (.sl 2 (E9 f9 (B9 1 f9)) fs2)]] [] 0 (.c (.t none (.v (.bool (fs.all (sU fs2)))))):=by
 refine u6 Tryz.func13 fun w S=>?_
 have gl:=L8 (f:=(fun(x:Int ×(List Int))=>x.2.length)) (l:=fs)
 refine w9 ?_
 refine d9 (X9 0 rfl rfl rfl rfl) ?_
 refine d9 (X9 1 rfl rfl rfl rfl) ?_
 refine rA<|o7 ?_
 refine rF 1 ?_
 refine rL ?_
 refine d9 (m0 rfl (.cons rfl .nil)) ?_
 refine d9 (n9 2 2 false (N9 Tryz.func46) (Q7 fs 47 ([((E9 (B9 3 (d8 Z9 f9 a8)) (B9 2 (E9 f9 (B9 1 f9)))) ((rs2,fs2)),2)]) (fun(x0:Int ×(List Int))=>!(sU ((rs2,fs2)).2 (x0.1,x0.2))) (by omega) (fun x0 mx0=>⟨N9 Tryz.func47,yW x0.1 x0.2 ((rs2,fs2)) (by omega) (by(have e1:=PX (f:=(fun(x:Int ×(List Int))=>x.2.length)) (l:=fs) (by assumption);(try dsimp only at e1);omega))⟩)) rfl (.cons rfl (.c .t0) (.cons rfl (.c (.clo (.cons rfl rfl rfl (.cons .t (.cons .t .nil)) .nil))) .nil)) rfl rfl rfl) ?_
 refine d9 (Q8 rfl rfl) ?_
 refine rA<|c9 ?_
 refine tk Tryz.func13 (.tmp rfl .nil) ?_
 all_goals(refine N7 ?_;rw [List.all_eq_not_any_not])
set_option maxHeartbeats 4000000 in
theorem jY (code:List Int)(hcl:code.length≤9223372036854775807):Pu Tryz.prog 3 [.c (.t none (.sl 1 f6 code))] [] 0 (.c (.t none (.v (.bool true)))):=by
 refine u6 Tryz.func3 fun w S=>?_
 refine w9<|rA<|c9<|k9<|w9 ?_
 refine rM ?_
 refine d9 (n9 0 0 false (N9 Tryz.func4) (OP code) rfl (.cons rfl (.c .t0) .nil) rfl rfl rfl) ?_
 refine c9 ?_
 refine j9 rfl (fun h1=>?_) (fun h1=>?_)
 ·
  have h1':=j8 h1
  refine w9<|rA<|c9 ?_
  refine tk Tryz.func3 (.tmp rfl .nil) ?_
  all_goals rfl
 ·
  have h1':=l8 h1
  refine m9<|w9<|rM ?_
  refine p7 (US 0 0 (N9 Tryz.func5) (DZ code (by omega)) rfl (.cons rfl (.c .t0) .nil) rfl rfl) ?_
  rintro⟨⟨rs2,fs3,b4,hs5,e6,lv7,rv8,v9⟩,hq10⟩
  try dsimp only at hq10
  try dsimp only
  obtain⟨q11,q12,q13,q14⟩:=hq10
  have hx0:oT rs2 fs3:=(by assumption);obtain⟨hx1,hx2,hx3,hx4⟩:=hx0;have xs1:=L0 hx4;have xs3:=YU hx4;have dd:yY (b4,hs5,e6,lv7,rv8):=(by assumption);have ds1:=BV dd.2.2.1;have ds2:=BV dd.2.2.2.1;have ds3:=dd.1;have ds4:=dd.2.1;have ds5:=dd.2.2.2.2;(try dsimp only at ds1 ds2 ds3 ds4 ds5);have do1:=cX dd.2.2.1;have do2:=cX dd.2.2.2.1;have tl:=LM rs2 fs3 b4 hs5 e6 lv7 rv8 v9;have ts:=rJ rs2 fs3 b4 hs5 e6 lv7 rv8 v9;have to:=lL rs2 fs3 b4 hs5 e6 lv7 rv8 v9 (ho:=xs3);obtain⟨L1,L2,L3,L4,L5⟩:=CJ rs2 fs3 b4 hs5 e6 lv7 rv8 v9;have nb:=nJ fs3;have eb:=RI b4 hs5;have wE1:IntKind.i64.wrap (((G9 (m8 (U9 fs3))).length:Int) - 1)=((G9 (m8 (U9 fs3))).length:Int) - 1:=s8 (by omega) (by omega);have wE2:IntKind.i64.wrap (((G9 (m8 (U9 fs3))).length:Int) +((Y5 false (G9 (F9 b4)) (G9 (F9 hs5))).length:Int))=((G9 (m8 (U9 fs3))).length:Int) +((Y5 false (G9 (F9 b4)) (G9 (F9 hs5))).length:Int):=s8 (by omega) (by omega)
  refine rM ?_
  refine d9 (O9 rfl rfl rfl rfl) ?_
  refine d9 (O9 rfl rfl rfl rfl) ?_
  refine d9 (O9 rfl rfl rfl rfl) ?_
  refine d9 (I9 0 (zs:=[.slice none 0 0,.slice none 0 0]) rfl rfl (by kernel_rfl) rfl) ?_
  refine d9 (I9 1 (zs:=[.slice none 0 0,.slice none 0 0,.bool false,.int .i64 0,.int .i64 0]) rfl rfl (by kernel_rfl) rfl) ?_
  refine rS 2 ?_
  refine rS 5 ?_
  refine rA<|o7 ?_
  refine rC 2 ?_
  refine rC 5 ?_
  refine rM ?_
  refine d9 (n9 2 8 false (N9 Tryz.func6) (uX rs2 fs3 b4 hs5 e6 lv7 rv8 v9 (by omega) (by omega) (by omega) (by omega) (by omega) (by omega) (by omega)) rfl (.cons rfl (.agg (.cons .t0 (.cons .t0 .nil))) (.cons rfl (.agg (.cons .t0 (.cons .t0 (.cons .t0 (.cons .t0 (.cons .t0 .nil)))))) (.cons rfl (.c .t0) .nil))) rfl rfl rfl) ?_
  refine rM ?_
  refine d9 (O9 rfl rfl rfl rfl) ?_
  refine d9 (O9 rfl rfl rfl rfl) ?_
  refine d9 (I9 8 (zs:=[.slice none 0 0,.slice none 0 0]) rfl rfl (by kernel_rfl) rfl) ?_
  refine rS 2 ?_
  refine rA<|o7 ?_
  refine rC 2 ?_
  refine rC 5 ?_
  refine rM ?_
  refine d9 (n9 9 9 true (N9 Tryz.func7) (zX rs2 fs3 b4 hs5 e6 lv7 rv8 v9 (by omega) (by omega) (by omega) (by omega) (by omega) (by omega) (by omega)) rfl (.cons rfl (.agg (.cons .t0 (.cons .t0 .nil))) (.cons rfl (.agg (.cons .t0 (.cons .t0 (.cons .t0 (.cons .t0 (.cons .t0 .nil)))))) (.cons rfl (.c .t0) .nil))) rfl rfl rfl) ?_
  refine rM ?_
  refine d9 (O9 rfl rfl rfl rfl) ?_
  refine d9 (O9 rfl rfl rfl rfl) ?_
  refine d9 (I9 9 (zs:=[.slice none 0 0,.slice none 0 0]) rfl rfl (by kernel_rfl) rfl) ?_
  refine rS 2 ?_
  refine rA<|c9<|k9<|w9 ?_
  refine rM ?_
  refine rM ?_
  refine rB ?_
  refine rM ?_
  refine x9 (fun g15=>?_) (fun g15=>?_)
  ·
   have g15':=l8 g15
   refine rC 2 ?_
   refine x9 (fun _=>?_) (C9 g15)
   refine rC 2 ?_
   refine x9 (fun _=>?_) (C9 g15)
   refine d9 (n9 10 10 false (N9 Tryz.func8) (n2 (M4 rs2 fs3 b4 hs5 e6 lv7 rv8 v9) (E5 rs2 fs3 b4 hs5 e6 lv7 rv8 v9) (M4 rs2 fs3 b4 hs5 e6 lv7 rv8 v9) (E5 rs2 fs3 b4 hs5 e6 lv7 rv8 v9) (by omega) (by omega) (by omega) (by omega)) rfl (.cons rfl (.agg (.cons (.own rfl) (.cons (.own rfl) .nil))) (.cons rfl (.agg (.cons .t0 (.cons .t0 .nil))) .nil)) rfl rfl rfl) ?_
   refine x9 (fun _=>?_) (C9 g15)
   refine d9 (Q8 rfl rfl) ?_
   refine d9 (H9 rfl rfl g15 rfl) ?_
   refine rM ?_
   refine x9 (fun g16=>?_) (fun g16=>?_)
   ·
    have g16':=g16
    try simp only [decide_eq_true_eq,decide_eq_false_iff_not,Bool.not_eq_true',Bool.not_eq_false',Bool.not_false,Bool.not_true] at g16'
    refine rM ?_
    refine x9 (fun _=>?_) (C9 g16)
    refine rB ?_
    refine x9 (fun _=>?_) (C9 g16)
    refine rC 2 ?_
    refine x9 (fun _=>?_) (C9 g16)
    refine rC 5 ?_
    refine x9 (fun _=>?_) (C9 g16)
    refine rM ?_
    refine x9 (fun _=>?_) (C9 g16)
    refine d9 (n9 10 10 false (N9 Tryz.func9) (R5 rs2 fs3 b4 hs5 e6 lv7 rv8 v9 (by omega) (by omega) (by omega) (by omega) (by omega) (by omega) (by omega)) rfl (.cons rfl (.agg (.cons .t0 (.cons .t0 .nil))) (.cons rfl (.agg (.cons .t0 (.cons .t0 (.cons .t0 (.cons .t0 (.cons .t0 .nil)))))) (.cons rfl (.c .t0) .nil))) rfl rfl rfl) ?_
    refine x9 (fun _=>?_) (C9 g16)
    refine d9 (JI rfl Tryz.underlying4 rfl rfl) ?_
    refine d9 (H9 rfl rfl g16 rfl) ?_
    refine c9 ?_
    refine j9 rfl (fun h17=>?_) (fun h17=>?_)
    ·
     have h17':=h17
     try simp only [decide_eq_true_eq,decide_eq_false_iff_not,Bool.not_eq_true',Bool.not_eq_false',Bool.not_false,Bool.not_true] at h17'
     refine w9<|rA<|c9 ?_
     refine tk Tryz.func3 (.tmp rfl .nil) ?_
     all_goals((exfalso;clear to do1 do2 xs3;grind))
    ·
     have h17':=h17
     try simp only [decide_eq_true_eq,decide_eq_false_iff_not,Bool.not_eq_true',Bool.not_eq_false',Bool.not_false,Bool.not_true] at h17'
     refine m9<|k9<|w9<|rM ?_
     refine rB<|c9 ?_
     refine j9 rfl (fun h18=>?_) (fun h18=>?_)
     ·
      have h18':=j8 h18
      refine w9<|rC 2 ?_
      refine rC 2 ?_
      refine d9 (n9 10 10 false (N9 Tryz.func8) (n2 (M4 rs2 fs3 b4 hs5 e6 lv7 rv8 v9) (E5 rs2 fs3 b4 hs5 e6 lv7 rv8 v9) rs2 fs3 (by omega) (by omega) (by omega) (by omega)) rfl (.cons rfl (.agg (.cons (.own rfl) (.cons (.own rfl) .nil))) (.cons rfl (.agg (.cons .t0 (.cons .t0 .nil))) .nil)) rfl rfl rfl) ?_
      refine rM ?_
      refine x9 (fun g19=>?_) (fun g19=>?_)
      ·
       have g19':=g19
       try simp only [decide_eq_true_eq,decide_eq_false_iff_not,Bool.not_eq_true',Bool.not_eq_false',Bool.not_false,Bool.not_true] at g19'
       refine rM ?_
       refine x9 (fun _=>?_) (nc g19)
       refine rB ?_
       refine x9 (fun _=>?_) (nc g19)
       refine rM ?_
       refine x9 (fun g20=>?_) (fun g20=>?_)
       ·
        have g20':=l8 g20
        refine rF 2 ?_
        refine x9 (fun _=>?_) (C9 g20)
        refine rL ?_
        refine x9 (fun _=>?_) (nc g19)
        refine d9 (H9 rfl rfl g20 rfl) ?_
        refine d9 (M9 rfl rfl g19 rfl) ?_
        refine rA<|c9 ?_
        refine tk Tryz.func3 (.tmp rfl .nil) ?_
        all_goals((refine N7 ?_;clear to do1 do2 xs3;grind))
       ·
        have g20':=j8 g20
        refine x9 (nc g20) (fun _=>?_)
        refine x9 (fun _=>?_) (nc g19)
        refine d9 (M9 rfl rfl g20 rfl) ?_
        refine d9 (M9 rfl rfl g19 rfl) ?_
        refine rA<|c9 ?_
        refine tk Tryz.func3 (.tmp rfl .nil) ?_
        all_goals rfl
      ·
       have g19':=g19
       try simp only [decide_eq_true_eq,decide_eq_false_iff_not,Bool.not_eq_true',Bool.not_eq_false',Bool.not_false,Bool.not_true] at g19'
       refine x9 (C9 g19) (fun _=>?_)
       refine x9 (C9 g19) (fun _=>?_)
       refine n4 rfl rfl rfl ?_
       refine n4 rfl rfl rfl ?_
       refine x9 (C9 g19) (fun _=>?_)
       refine d9 (H9 rfl rfl g19 rfl) ?_
       refine rA<|c9 ?_
       refine tk Tryz.func3 (.tmp rfl .nil) ?_
       all_goals((exfalso;clear to do1 do2 xs3;grind))
     ·
      have h18':=l8 h18
      refine m9<|k9<|w9<|rF 2 ?_
      refine rL<|c9 ?_
      refine j9 rfl (fun h21=>?_) (fun h21=>?_)
      ·
       have h21':=h21
       refine k9 ?_
       refine tY ?_
       refine dT 0 rfl (pC 2) ?_
       refine dT 3 rfl (pC 2) ?_
       refine dO 1 rfl (n9 10 13 false (N9 Tryz.func10) (V7 (M4 rs2 fs3 b4 hs5 e6 lv7 rv8 v9) (E5 rs2 fs3 b4 hs5 e6 lv7 rv8 v9) (by omega) (by omega)) rfl (.cons rfl (.agg (.cons (.own rfl) (.cons (.own rfl) .nil))) .nil) rfl rfl rfl) ?_
       refine dT 2 rfl (J2 rfl rfl rfl) ?_
       refine dO 4 rfl (n9 13 16 false (N9 Tryz.func10) (V7 rs2 fs3 (by omega) (by omega)) rfl (.cons rfl (.agg (.cons .t0 (.cons .t0 .nil))) .nil) rfl rfl rfl) ?_
       refine dT 5 rfl (J2 rfl rfl rfl) ?_
       refine dT 6 rfl pB ?_
       refine dT 7 rfl pB ?_
       refine dT 8 rfl pM ?_
       refine dH 9 rfl (fun _=>pC 2) (fun g22=>?_) (fun g22=>?_)
       ·
        have g22':=j8 g22
        refine dH 10 rfl (fun _=>pC 2) (fun _=>?_) (nc g22)
        refine s6 11 rfl rfl (by kernel_rfl) rfl rfl rfl (fun _=>(n9 16 16 false (N9 Tryz.func11) (UZ rs2 fs3 (M4 rs2 fs3 b4 hs5 e6 lv7 rv8 v9) (E5 rs2 fs3 b4 hs5 e6 lv7 rv8 v9) (by omega) (by omega) (by omega) (by omega) (by omega) (by omega)) rfl (.cons rfl (.agg (.cons .t0 (.cons .t0 .nil))) (.cons rfl (.agg (.cons (.own rfl) (.cons (.own rfl) .nil))) .nil)) rfl rfl rfl)) (fun _=>?_) (nc g22)
        refine dT 12 rfl (H8 rfl g22 rfl) ?_
        refine dT 13 rfl pM ?_
        refine dH 14 rfl (fun _=>pC 2) (fun g23=>?_) (fun g23=>?_)
        ·
         have g23':=g23
         refine s6 15 rfl rfl (by kernel_rfl) rfl rfl rfl (fun _=>(n9 16 16 false (N9 Tryz.func12) (f7 (M4 rs2 fs3 b4 hs5 e6 lv7 rv8 v9) (E5 rs2 fs3 b4 hs5 e6 lv7 rv8 v9) (by omega) (by omega) (by omega)) rfl (.cons rfl (.agg (.cons (.own rfl) (.cons (.own rfl) .nil))) .nil) rfl rfl rfl)) (fun _=>?_) (nc g23)
         refine dT 16 rfl (H8 rfl g23 rfl) ?_
         refine dT 17 rfl pA ?_
         refine dE ?_
         refine tk Tryz.func3 (.tmp rfl .nil) ?_
         all_goals((refine N7 ?_;clear to do1 do2 xs3;grind))
        ·
         have g23':=g23
         refine dG 15 (C9 g23) (fun _=>?_)
         refine dT 16 rfl (o8 rfl g23 rfl) ?_
         refine dT 17 rfl pA ?_
         refine dE ?_
         refine tk Tryz.func3 (.tmp rfl .nil) ?_
         all_goals((exfalso;clear to do1 do2 xs3;grind))
       ·
        have g22':=l8 g22
        refine dG 10 (C9 g22) (fun _=>?_)
        refine dG 11 (C9 g22) (fun _=>?_)
        refine dT 12 rfl (o8 rfl g22 rfl) ?_
        refine dT 13 rfl pM ?_
        refine dG 14 (C9 rfl) (fun _=>?_)
        refine dG 15 (C9 rfl) (fun _=>?_)
        refine dT 16 rfl (o8 rfl rfl rfl) ?_
        refine dT 17 rfl pA ?_
        refine dE ?_
        refine tk Tryz.func3 (.tmp rfl .nil) ?_
        all_goals((exfalso;have wT:=L4 (by omega) (by assumption);omega))
      ·
       have h21':=h21
       refine m9<|k9 ?_
       refine tY ?_
       refine dT 0 rfl (pC 2) ?_
       refine dT 1 rfl (pC 2) ?_
       refine dO 2 rfl (n9 10 10 false (N9 Tryz.func13) (IV rs2 fs3 (M4 rs2 fs3 b4 hs5 e6 lv7 rv8 v9) (E5 rs2 fs3 b4 hs5 e6 lv7 rv8 v9) (by omega) (by omega)) rfl (.cons rfl (.agg (.cons .t0 (.cons .t0 .nil))) (.cons rfl (.agg (.cons (.own rfl) (.cons (.own rfl) .nil))) .nil)) rfl rfl rfl) ?_
       refine dT 3 rfl pM ?_
       refine dH 4 rfl (fun _=>pC 2) (fun g24=>?_) (fun g24=>?_)
       ·
        have g24':=g24
        refine dH 5 rfl (fun _=>pC 5) (fun _=>?_) (nc g24)
        refine dH 6 rfl (fun _=>pM) (fun _=>?_) (nc g24)
        refine s6 7 rfl rfl (by kernel_rfl) rfl rfl rfl (fun _=>(n9 10 10 false (N9 Tryz.func14) (Q3 (M4 rs2 fs3 b4 hs5 e6 lv7 rv8 v9) (E5 rs2 fs3 b4 hs5 e6 lv7 rv8 v9) b4 hs5 e6 lv7 rv8 v9 (by omega) (by omega) (by omega) (by omega) (by omega) (by omega) (by omega)) rfl (.cons rfl (.agg (.cons (.own rfl) (.cons (.own rfl) .nil))) (.cons rfl (.agg (.cons .t0 (.cons .t0 (.cons .t0 (.cons .t0 (.cons .t0 .nil)))))) (.cons rfl (.c .t0) .nil))) rfl rfl rfl)) (fun _=>?_) (nc g24)
        refine dH 8 rfl (fun _=>T3 rfl) (fun _=>?_) (nc g24)
        refine dT 9 rfl (H8 rfl g24 rfl) ?_
        refine dT 10 rfl pM ?_
        refine dH 11 rfl (fun _=>pC 2) (fun g25=>?_) (fun g25=>?_)
        ·
         have g25':=(P4 g25)
         refine s6 12 rfl rfl (by kernel_rfl) rfl rfl rfl (fun _=>(n9 10 10 false (N9 Tryz.func12) (f7 (M4 rs2 fs3 b4 hs5 e6 lv7 rv8 v9) (E5 rs2 fs3 b4 hs5 e6 lv7 rv8 v9) (by omega) (by omega) (by omega)) rfl (.cons rfl (.agg (.cons (.own rfl) (.cons (.own rfl) .nil))) .nil) rfl rfl rfl)) (fun _=>?_) (nc g25)
         refine dT 13 rfl (H8 rfl g25 rfl) ?_
         refine dT 14 rfl pM ?_
         refine dH 15 rfl (fun _=>pC 2) (fun g26=>?_) (fun g26=>?_)
         ·
          have g26':=g26
          refine dH 18 rfl (fun _=>pC 2) (fun _=>?_) (nc g26)
          refine dH 21 rfl (fun _=>pC 5) (fun _=>?_) (nc g26)
          refine s6 16 rfl rfl (by kernel_rfl) rfl rfl rfl (fun _=>(n9 10 13 false (N9 Tryz.func10) (V7 (M4 rs2 fs3 b4 hs5 e6 lv7 rv8 v9) (E5 rs2 fs3 b4 hs5 e6 lv7 rv8 v9) (by omega) (by omega)) rfl (.cons rfl (.agg (.cons (.own rfl) (.cons (.own rfl) .nil))) .nil) rfl rfl rfl)) (fun _=>?_) (nc g26)
          refine dH 17 rfl (fun _=>J2 rfl rfl rfl) (fun _=>?_) (nc g26)
          refine s6 19 rfl rfl (by kernel_rfl) rfl rfl rfl (fun _=>(n9 13 16 false (N9 Tryz.func10) (V7 rs2 fs3 (by omega) (by omega)) rfl (.cons rfl (.agg (.cons .t0 (.cons .t0 .nil))) .nil) rfl rfl rfl)) (fun _=>?_) (nc g26)
          refine dH 20 rfl (fun _=>J2 rfl rfl rfl) (fun _=>?_) (nc g26)
          refine s6 22 rfl rfl (by kernel_rfl) rfl rfl rfl (fun _=>(n9 16 21 false (N9 Tryz.func15) (w4 b4 hs5 e6 lv7 rv8 (by omega)) rfl (.cons rfl (.agg (.cons .t0 (.cons .t0 (.cons .t0 (.cons .t0 (.cons .t0 .nil)))))) .nil) rfl rfl rfl)) (fun _=>?_) (nc g26)
          refine dH 23 rfl (fun _=>J2 rfl rfl rfl) (fun _=>?_) (nc g26)
          refine dH 24 rfl (fun _=>pB) (fun _=>?_) (nc g26)
          refine dH 25 rfl (fun _=>pB) (fun _=>?_) (nc g26)
          refine dT 26 rfl (H8 rfl g26 rfl) ?_
          refine dT 27 rfl pM ?_
          refine dH 28 rfl (fun _=>pF 1) (fun g27=>?_) (fun g27=>?_)
          ·
           have g27':=j8 g27
           refine dH 29 rfl (fun _=>pL) (fun _=>?_) (nc g27)
           refine dH 30 rfl (fun _=>J2 rfl rfl rfl) (fun _=>?_) (nc g27)
           refine dH 31 rfl (fun _=>pF 1) (fun _=>?_) (nc g27)
           refine dH 32 rfl (fun _=>pL) (fun _=>?_) (nc g27)
           refine dH 33 rfl (fun _=>BZ rfl rfl) (fun _=>?_) (nc g27)
           refine dH 34 rfl (fun _=>pB) (fun _=>?_) (nc g27)
           refine dT 35 rfl (H8 rfl g27 rfl) ?_
           refine dT 36 rfl pA ?_
           refine dE ?_
           refine tk Tryz.func3 (.tmp rfl .nil) ?_
           all_goals((refine N7 ?_;clear to do1 do2 xs3;grind))
          ·
           have g27':=l8 g27
           refine dG 29 (C9 g27) (fun _=>?_)
           refine dG 30 (C9 g27) (fun _=>?_)
           refine dG 31 (C9 g27) (fun _=>?_)
           refine dG 32 (C9 g27) (fun _=>?_)
           refine dG 33 (C9 g27) (fun _=>?_)
           refine dG 34 (C9 g27) (fun _=>?_)
           refine dT 35 rfl (o8 rfl g27 rfl) ?_
           refine dT 36 rfl pA ?_
           refine dE ?_
           refine tk Tryz.func3 (.tmp rfl .nil) ?_
           all_goals((exfalso;have wT:=L5 (by omega) (by assumption);omega))
         ·
          have g26':=g26
          refine dG 16 (C9 g26) (fun _=>?_)
          refine dG 17 (C9 g26) (fun _=>?_)
          refine dG 18 (C9 g26) (fun _=>?_)
          refine dG 19 (C9 g26) (fun _=>?_)
          refine dG 20 (C9 g26) (fun _=>?_)
          refine dG 21 (C9 g26) (fun _=>?_)
          refine dG 22 (C9 g26) (fun _=>?_)
          refine dG 23 (C9 g26) (fun _=>?_)
          refine dG 24 (C9 g26) (fun _=>?_)
          refine dG 25 (C9 g26) (fun _=>?_)
          refine dT 26 rfl (o8 rfl g26 rfl) ?_
          refine dT 27 rfl pM ?_
          refine dG 28 (C9 rfl) (fun _=>?_)
          refine dG 29 (C9 rfl) (fun _=>?_)
          refine dG 30 (C9 rfl) (fun _=>?_)
          refine dG 31 (C9 rfl) (fun _=>?_)
          refine dG 32 (C9 rfl) (fun _=>?_)
          refine dG 33 (C9 rfl) (fun _=>?_)
          refine dG 34 (C9 rfl) (fun _=>?_)
          refine dT 35 rfl (o8 rfl rfl rfl) ?_
          refine dT 36 rfl pA ?_
          refine dE ?_
          refine tk Tryz.func3 (.tmp rfl .nil) ?_
          all_goals((exfalso;clear to do1 do2 xs3;grind))
        ·
         have g25':=(O4 g25)
         refine dG 12 (C9 g25) (fun _=>?_)
         refine dT 13 rfl (o8 rfl g25 rfl) ?_
         refine dT 14 rfl pM ?_
         refine dG 15 (C9 rfl) (fun _=>?_)
         refine dG 16 (C9 rfl) (fun _=>?_)
         refine dG 17 (C9 rfl) (fun _=>?_)
         refine dG 18 (C9 rfl) (fun _=>?_)
         refine dG 19 (C9 rfl) (fun _=>?_)
         refine dG 20 (C9 rfl) (fun _=>?_)
         refine dG 21 (C9 rfl) (fun _=>?_)
         refine dG 22 (C9 rfl) (fun _=>?_)
         refine dG 23 (C9 rfl) (fun _=>?_)
         refine dG 24 (C9 rfl) (fun _=>?_)
         refine dG 25 (C9 rfl) (fun _=>?_)
         refine dT 26 rfl (o8 rfl rfl rfl) ?_
         refine dT 27 rfl pM ?_
         refine dG 28 (C9 rfl) (fun _=>?_)
         refine dG 29 (C9 rfl) (fun _=>?_)
         refine dG 30 (C9 rfl) (fun _=>?_)
         refine dG 31 (C9 rfl) (fun _=>?_)
         refine dG 32 (C9 rfl) (fun _=>?_)
         refine dG 33 (C9 rfl) (fun _=>?_)
         refine dG 34 (C9 rfl) (fun _=>?_)
         refine dT 35 rfl (o8 rfl rfl rfl) ?_
         refine dT 36 rfl pA ?_
         refine dE ?_
         refine tk Tryz.func3 (.tmp rfl .nil) ?_
         all_goals((exfalso;clear to do1 do2 xs3;grind))
       ·
        have g24':=g24
        refine dG 5 (C9 g24) (fun _=>?_)
        refine dG 6 (C9 g24) (fun _=>?_)
        refine dG 7 (C9 g24) (fun _=>?_)
        refine dG 8 (C9 g24) (fun _=>?_)
        refine dT 9 rfl (o8 rfl g24 rfl) ?_
        refine dT 10 rfl pM ?_
        refine dG 11 (C9 rfl) (fun _=>?_)
        refine dG 12 (C9 rfl) (fun _=>?_)
        refine dT 13 rfl (o8 rfl rfl rfl) ?_
        refine dT 14 rfl pM ?_
        refine dG 15 (C9 rfl) (fun _=>?_)
        refine dG 16 (C9 rfl) (fun _=>?_)
        refine dG 17 (C9 rfl) (fun _=>?_)
        refine dG 18 (C9 rfl) (fun _=>?_)
        refine dG 19 (C9 rfl) (fun _=>?_)
        refine dG 20 (C9 rfl) (fun _=>?_)
        refine dG 21 (C9 rfl) (fun _=>?_)
        refine dG 22 (C9 rfl) (fun _=>?_)
        refine dG 23 (C9 rfl) (fun _=>?_)
        refine dG 24 (C9 rfl) (fun _=>?_)
        refine dG 25 (C9 rfl) (fun _=>?_)
        refine dT 26 rfl (o8 rfl rfl rfl) ?_
        refine dT 27 rfl pM ?_
        refine dG 28 (C9 rfl) (fun _=>?_)
        refine dG 29 (C9 rfl) (fun _=>?_)
        refine dG 30 (C9 rfl) (fun _=>?_)
        refine dG 31 (C9 rfl) (fun _=>?_)
        refine dG 32 (C9 rfl) (fun _=>?_)
        refine dG 33 (C9 rfl) (fun _=>?_)
        refine dG 34 (C9 rfl) (fun _=>?_)
        refine dT 35 rfl (o8 rfl rfl rfl) ?_
        refine dT 36 rfl pA ?_
        refine dE ?_
        refine tk Tryz.func3 (.tmp rfl .nil) ?_
        all_goals((exfalso;clear to do1 do2 xs3;grind))
   ·
    have g16':=g16
    try simp only [decide_eq_true_eq,decide_eq_false_iff_not,Bool.not_eq_true',Bool.not_eq_false',Bool.not_false,Bool.not_true] at g16'
    refine x9 (nc g16) (fun _=>?_)
    refine x9 (nc g16) (fun _=>?_)
    refine x9 (nc g16) (fun _=>?_)
    refine x9 (nc g16) (fun _=>?_)
    refine x9 (nc g16) (fun _=>?_)
    refine x9 (nc g16) (fun _=>?_)
    refine d9 (M9 rfl rfl g16 rfl) ?_
    refine c9 ?_
    refine j9 rfl (fun _=>?_) (nc rfl)
    refine w9<|rA<|c9 ?_
    refine tk Tryz.func3 (.tmp rfl .nil) ?_
    all_goals((exfalso;clear to do1 do2 xs3;grind))
  ·
   have g15':=j8 g15
   refine x9 (nc g15) (fun _=>?_)
   refine x9 (nc g15) (fun _=>?_)
   refine x9 (nc g15) (fun _=>?_)
   refine d9 (M9 rfl rfl g15 rfl) ?_
   refine rM ?_
   refine x9 (nc rfl) (fun _=>?_)
   refine x9 (nc rfl) (fun _=>?_)
   refine x9 (nc rfl) (fun _=>?_)
   refine x9 (nc rfl) (fun _=>?_)
   refine x9 (nc rfl) (fun _=>?_)
   refine x9 (nc rfl) (fun _=>?_)
   refine x9 (nc rfl) (fun _=>?_)
   refine d9 (M9 rfl rfl rfl rfl) ?_
   refine c9 ?_
   refine j9 rfl (fun _=>?_) (nc rfl)
   refine w9<|rA<|c9 ?_
   refine tk Tryz.func3 (.tmp rfl .nil) ?_
   all_goals((exfalso;clear to do1 do2 xs3;grind))
end Go.Eng
