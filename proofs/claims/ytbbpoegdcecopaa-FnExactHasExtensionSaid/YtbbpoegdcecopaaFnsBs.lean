/- What functions answer that several laws of the seat reach. Conditions: as each says. -/
import Derived.Test.YtbbpoegdcecopaaEngZm
import Derived.Test.YtbbpoegdcecopaaChecked
set_option linter.unusedVariables false
set_option linter.unusedSimpArgs false
namespace Go.Eng
open Go Go.RowKit Go.Proofs
def Try.sortL_ren : Go.Shelf.Ren := ⟨fun | 5 => 125 | 8 => 165 | 7 => 164 | 19 => 188 | 20 => 189 | 10 => 179 | 11 => 180 | 12 => 181 | 13 => 182 | 14 => 183 | 15 => 184 | 16 => 185 | 17 => 186 | 18 => 187 | 30 => 192 | 31 => 193 | 32 => 194 | 33 => 195 | 34 => 196 | 35 => 190 | 40 => 198 | n => n, fun | 23 => 60 | 25 => 3 | 3 => 3 | 32 => 174 | 22 => 60 | 0 => 0 | 44 => 194 | 46 => 196 | 4 => 4 | 36 => 187 | 35 => 186 | 41 => 160 | 5 => 5 | 9 => 9 | 53 => 197 | 57 => 201 | 63 => 204 | 64 => 205 | n => n, fun | n => n⟩
theorem Try.sortL : Go.Proofs.SlLaysM.n5 Try.prog Try.sortL_ren := {
 mixed := by kernel_rfl
 f5 := ⟨Try.f125.name, by decide, Try.func125.trans (congrArg some (by kernel_rfl))⟩
 f7 := ⟨Try.f164.name, by decide, Try.func164.trans (congrArg some (by kernel_rfl))⟩
 f8 := Try.func165.trans (congrArg some (by kernel_rfl))
 f10 := ⟨Try.f179.name, by decide, Try.func179.trans (congrArg some (by kernel_rfl))⟩
 f11 := ⟨Try.f180.name, by decide, Try.func180.trans (congrArg some (by kernel_rfl))⟩
 f12 := ⟨Try.f181.name, by decide, Try.func181.trans (congrArg some (by kernel_rfl))⟩
 f13 := ⟨Try.f182.name, by decide, Try.func182.trans (congrArg some (by kernel_rfl))⟩
 f14 := ⟨Try.f183.name, by decide, Try.func183.trans (congrArg some (by kernel_rfl))⟩
 f15 := ⟨Try.f184.name, by decide, Try.func184.trans (congrArg some (by kernel_rfl))⟩
 f16 := ⟨Try.f185.name, by decide, Try.func185.trans (congrArg some (by kernel_rfl))⟩
 f17 := ⟨Try.f186.name, by decide, Try.func186.trans (congrArg some (by kernel_rfl))⟩
 f18 := ⟨Try.f187.name, by decide, Try.func187.trans (congrArg some (by kernel_rfl))⟩
 f19 := Try.func188.trans (congrArg some (by kernel_rfl))
 f20 := Try.func189.trans (congrArg some (by kernel_rfl))
 f30 := ⟨Try.f192.name, by decide, Try.func192.trans (congrArg some (by kernel_rfl))⟩
 f31 := Try.func193.trans (congrArg some (by kernel_rfl))
 f32 := Try.func194.trans (congrArg some (by kernel_rfl))
 f33 := ⟨Try.f195.name, by decide, Try.func195.trans (congrArg some (by kernel_rfl))⟩
 f34 := ⟨Try.f196.name, by decide, Try.func196.trans (congrArg some (by kernel_rfl))⟩
 f35 := ⟨Try.f190.name, by decide, Try.func190.trans (congrArg some (by kernel_rfl))⟩
 f40 := ⟨Try.f198.name, by decide, Try.func198.trans (congrArg some (by kernel_rfl))⟩
 t0 := Try.underlying0
 a0 := Try.isAgg0
 z0 := Try.sizeOf0
 v0 := Try.zeroValue0
 t3 := Try.underlying3
 a3 := Try.isAgg3
 z3 := Try.sizeOf3
 v3 := Try.zeroValue3
 t4 := Try.underlying4
 a4 := Try.isAgg4
 z4 := Try.sizeOf4
 v4 := Try.zeroValue4
 t5 := Try.underlying5
 a5 := Try.isAgg5
 z5 := Try.sizeOf5
 v5 := Try.zeroValue5
 t9 := Try.underlying9
 a9 := Try.isAgg9
 z9 := Try.sizeOf9
 v9 := Try.zeroValue9
 t22 := Try.underlying60
 a22 := Try.isAgg60
 z22 := Try.sizeOf60
 v22 := Try.zeroValue60
 t23 := Try.underlying60
 a23 := Try.isAgg60
 z23 := Try.sizeOf60
 v23 := Try.zeroValue60
 t25 := Try.underlying3
 a25 := Try.isAgg3
 z25 := Try.sizeOf3
 v25 := Try.zeroValue3
 t32 := Try.underlying174
 a32 := Try.isAgg174
 z32 := Try.sizeOf174
 v32 := Try.zeroValue174
 t35 := Try.underlying186
 a35 := Try.isAgg186
 z35 := Try.sizeOf186
 v35 := Try.zeroValue186
 t36 := Try.underlying187
 a36 := Try.isAgg187
 z36 := Try.sizeOf187
 v36 := Try.zeroValue187
 t41 := Try.underlying160
 a41 := Try.isAgg160
 z41 := Try.sizeOf160
 v41 := Try.zeroValue160
 t44 := Try.underlying194
 a44 := Try.isAgg194
 z44 := Try.sizeOf194
 v44 := Try.zeroValue194
 t46 := Try.underlying196
 a46 := Try.isAgg196
 z46 := Try.sizeOf196
 v46 := Try.zeroValue196
 t53 := Try.underlying197
 a53 := Try.isAgg197
 z53 := Try.sizeOf197
 v53 := Try.zeroValue197
 t57 := Try.underlying201
 a57 := Try.isAgg201
 z57 := Try.sizeOf201
 v57 := Try.zeroValue201
 t63 := Try.underlying204
 a63 := Try.isAgg204
 z63 := Try.sizeOf204
 v63 := Try.zeroValue204
 t64 := Try.underlying205
 a64 := Try.isAgg205
 z64 := Try.sizeOf205
 v64 := Try.zeroValue205 }
set_option maxHeartbeats 1000000 in
set_option maxRecDepth 10000 in
theorem c_slices_Sort___int_int_ (U : Nat → Value) (e0 : Nat) (l : List Int) (hl : l.length ≤ 1099511627776) : Mu Try.prog 125 [.c (.own 0)] [(0, some (.row (some (U 0)) e0 true 1 encI (l)))] 1 [(0, some (.row (some (U 0)) e0 true 1 encI (sortI l)))] 1 (.tup []) := by
  exact sort_mu Try.sortL U e0 l (by omega)
set_option maxHeartbeats 1000000 in
set_option maxRecDepth 10000 in
theorem c_slices_Compact___int_int_ (U : Nat → Value) (e0 : Nat) (l : List Int) (hl : l.length ≤ 4611686018427387904) : Mu Try.prog 126 [.c (.own 0)] [(0, some (.row (some (U 0)) e0 true 1 encI (l)))] 1 [(0, some (.row none e0 true 1 encI (compactI l)))] 1 (.c (.own 0)) := by
  refine mu_enter Try.func126 rfl (Nat.le_of_ble_eq_true rfl) fun w S M => ?_
  refine t_seq ?_
  refine t_region ?_
  refine r_op (o_assign rfl rfl) ?_
  refine r_end ?_
  refine t_seq ?_
  refine t_seq ?_
  refine t_region ?_
  refine r_op (o_move rfl rfl) ?_
  refine r_op (o_leno rfl rfl rfl rfl) ?_
  refine r_op (o_bin rfl rfl rfl rfl) ?_
  refine r_end ?_
  refine t_cond rfl (fun h1 => ?_) (fun h1 => ?_)
  ·
    have h1' := h1
    try simp only [decide_eq_true_eq, decide_eq_false_iff_not, Bool.not_eq_true', Bool.not_eq_false', Bool.not_false, Bool.not_true] at h1'
    refine t_seq ?_
    refine t_region ?_
    refine r_op (o_move rfl rfl) ?_
    refine r_op (o_assign rfl rfl) ?_
    refine r_end ?_
    refine gt_unpin 0 rfl ?_
    refine t_ret Try.func126 (.tmp rfl .nil) rfl fun E S w u hI hd => ?_
    refine postM_mk hI hd ?_ ⟨eqR ?_, trivial⟩ rfl rfl <;> clear hI hd <;> (try clear ih0) <;> (try clear ih1)
    all_goals first | rfl | ((match l with | [] => rfl | [_] => rfl | _ :: _ :: _ => (exfalso; simp at *; omega)))
  ·
    have h1' := h1
    try simp only [decide_eq_true_eq, decide_eq_false_iff_not, Bool.not_eq_true', Bool.not_eq_false', Bool.not_false, Bool.not_true] at h1'
    refine t_skip ?_
    refine t_seq ?_
    refine t_seq ?_
    refine t_region ?_
    refine r_op (o_assign rfl rfl) ?_
    refine r_end ?_
    refine t_block ?_
    refine t_loopL (fun m => ⟨[(0, some (.c (.own 0))), (3, some (.c (.t none (.v (.int .i64 ((m : Int)))))))], [(0, some (.row (some (U 0)) e0 true 1 encI (l)))], 1⟩ : Nat → St) (fun m => 1 ≤ m ∧ m ≤ l.length ∧ compactI (l.take m) = l.take m) (fun m => l.length - m) 1 ⟨⟨rfl, ⟨(eqI rfl), trivial⟩⟩, ⟨rfl, trivial⟩, rfl⟩ (by exact ⟨Nat.le_refl _, by omega, by (rcases l with _ | ⟨x, l⟩ <;> simp [compactI])⟩) ?_
    rintro m hI ih0
    try dsimp only at hI ih0
    obtain ⟨i1, i2, i3⟩ := hI
    refine t_seq ?_
    refine t_seq ?_
    refine t_region ?_
    refine r_op (o_move rfl rfl) ?_
    refine r_op (o_move rfl rfl) ?_
    refine r_op (o_leno rfl rfl rfl rfl) ?_
    refine r_op (o_bin rfl rfl rfl rfl) ?_
    refine r_end ?_
    refine t_cond rfl (fun h2 => ?_) (fun h2 => ?_)
    ·
      have h2' := h2
      try simp only [decide_eq_true_eq, decide_eq_false_iff_not, Bool.not_eq_true', Bool.not_eq_false', Bool.not_false, Bool.not_true] at h2'
      refine t_skip ?_
      refine t_seq ?_
      refine t_block ?_
      refine t_seq ?_
      refine t_draw (fun _ => true) (by kernel_rfl) ?_
      refine d_take 0 rfl rfl (by kernel_rfl) (by kernel_rfl) (by kernel_rfl) (p_move rfl) ?_
      refine d_take 1 rfl rfl (by kernel_rfl) (by kernel_rfl) (by kernel_rfl) (p_move rfl) ?_
      obtain ⟨z3, hz4, b5⟩ := at_get (xs := l) (n := (m : Int)) (by first | omega | (simp only [IntKind.wrap_i64]; omega) | (simp only [List.length_append, List.length_take, List.length_replicate, List.length_drop]; omega)) (by first | omega | (simp only [IntKind.wrap_i64]; omega) | (simp only [List.length_append, List.length_take, List.length_replicate, List.length_drop]; omega))
      refine d_take 2 rfl rfl (by kernel_rfl) (by kernel_rfl) (by kernel_rfl) (p_indexo (by kernel_rfl) rfl rfl rfl b5 (at_lt b5 hz4)) ?_
      refine d_take 3 rfl rfl (by kernel_rfl) (by kernel_rfl) (by kernel_rfl) (p_load1o (by kernel_rfl) rfl rfl rfl hz4) ?_
      refine d_take 4 rfl rfl (by kernel_rfl) (by kernel_rfl) (by kernel_rfl) (p_move rfl) ?_
      refine d_take 5 rfl rfl (by kernel_rfl) (by kernel_rfl) (by kernel_rfl) (p_move rfl) ?_
      refine d_take 6 rfl rfl (by kernel_rfl) (by kernel_rfl) (by kernel_rfl) (p_bin rfl rfl rfl) ?_
      obtain ⟨z6, hz7, b8⟩ := at_get (xs := l) (n := IntKind.i64.wrap ((m : Int) - 1)) (by first | omega | (simp only [IntKind.wrap_i64]; omega) | (simp only [List.length_append, List.length_take, List.length_replicate, List.length_drop]; omega)) (by first | omega | (simp only [IntKind.wrap_i64]; omega) | (simp only [List.length_append, List.length_take, List.length_replicate, List.length_drop]; omega))
      refine d_take 7 rfl rfl (by kernel_rfl) (by kernel_rfl) (by kernel_rfl) (p_indexo (by kernel_rfl) rfl rfl rfl b8 (at_lt b8 hz7)) ?_
      refine d_take 8 rfl rfl (by kernel_rfl) (by kernel_rfl) (by kernel_rfl) (p_load1o (by kernel_rfl) rfl rfl rfl hz7) ?_
      refine d_take 9 rfl rfl (by kernel_rfl) (by kernel_rfl) (by kernel_rfl) (p_bin rfl rfl rfl) ?_
      refine d_end (by kernel_rfl) ?_
      refine t_cond rfl (fun h9 => ?_) (fun h9 => ?_)
      ·
        have h9' := h9
        try simp only [decide_eq_true_eq, decide_eq_false_iff_not, Bool.not_eq_true', Bool.not_eq_false', Bool.not_false, Bool.not_true] at h9'
        refine t_seq ?_
        refine t_region ?_
        refine r_op (o_move rfl rfl) ?_
        refine r_op (o_move rfl rfl) ?_
        refine r_op (o_subvl rfl (by kernel_rfl) rfl rfl rfl (by first | omega | (simp only [IntKind.wrap_i64]; omega) | (simp only [List.length_append, List.length_take, List.length_replicate, List.length_drop]; omega)) (by first | omega | (simp only [IntKind.wrap_i64]; omega) | (simp only [List.length_append, List.length_take, List.length_replicate, List.length_drop]; omega))) ?_
        refine r_op (o_assign rfl rfl) ?_
        refine r_end ?_
        refine t_seq ?_
        refine t_seq ?_
        refine t_region ?_
        refine r_op (o_assign rfl rfl) ?_
        refine r_end ?_
        refine t_block ?_
        refine t_loopL (fun (j, k, q) => ⟨[(0, some (.c (.own 0))), (3, some (.c (.t none (.v (.int .i64 ((k : Int))))))), (4, some (.c (.vw 0 (((m : Int)).toNat) (((l).length - ((m : Int)).toNat)) 1))), (5, some (.c (.t none (.v (.int .i64 ((j : Int)))))))], [(0, some (.row (some (U 0)) e0 true 1 encI (q)))], 1⟩ : Nat × Nat × List Int → St) (fun (j, k, q) => 1 ≤ j ∧ cmpK l q k (m + j)) (fun (j, k, q) => l.length - j) (1, m, l) ⟨⟨rfl, ⟨rfl, ⟨rfl, ⟨(eqI rfl), trivial⟩⟩⟩⟩, ⟨rfl, trivial⟩, rfl⟩ (by exact ⟨Nat.le_refl _, cmpK_start i3 (by assumption) (by assumption) (by simp only [IntKind.wrap_i64]; omega) i1 (by omega)⟩) ?_
        rintro ⟨j, k, q⟩ hI ih1
        try dsimp only at hI ih1
        obtain ⟨j0, j1⟩ := hI; have j2 := j1.1; have j3 := j1.2.1; have j4 := j1.2.2.1
        refine t_seq ?_
        refine t_seq ?_
        refine t_region ?_
        refine r_op (o_move rfl rfl) ?_
        refine r_op (o_move rfl rfl) ?_
        refine r_op (o_lenv rfl rfl rfl) ?_
        refine r_op (o_bin rfl rfl rfl rfl) ?_
        refine r_end ?_
        refine t_cond rfl (fun h10 => ?_) (fun h10 => ?_)
        ·
          have h10' := h10
          try simp only [decide_eq_true_eq, decide_eq_false_iff_not, Bool.not_eq_true', Bool.not_eq_false', Bool.not_false, Bool.not_true] at h10'
          refine t_skip ?_
          refine t_seq ?_
          refine t_block ?_
          refine t_seq ?_
          refine t_draw (fun _ => true) (by kernel_rfl) ?_
          refine d_take 0 rfl rfl (by kernel_rfl) (by kernel_rfl) (by kernel_rfl) (p_move rfl) ?_
          refine d_take 1 rfl rfl (by kernel_rfl) (by kernel_rfl) (by kernel_rfl) (p_move rfl) ?_
          obtain ⟨z11, hz12⟩ := vw_get (xs := q) (n := (((m : Int)).toNat + ((j : Int)).toNat)) (by first | omega | (simp only [IntKind.wrap_i64]; omega) | (simp only [List.length_append, List.length_take, List.length_replicate, List.length_drop]; omega))
          refine d_take 2 rfl rfl (by kernel_rfl) (by kernel_rfl) (by kernel_rfl) (p_indexv (by kernel_rfl) rfl rfl (by first | omega | (simp only [IntKind.wrap_i64]; omega) | (simp only [List.length_append, List.length_take, List.length_replicate, List.length_drop]; omega)) (by first | omega | (simp only [IntKind.wrap_i64]; omega) | (simp only [List.length_append, List.length_take, List.length_replicate, List.length_drop]; omega))) ?_
          refine d_take 3 rfl rfl (by kernel_rfl) (by kernel_rfl) (by kernel_rfl) (p_load1o (by kernel_rfl) rfl rfl rfl hz12) ?_
          refine d_take 4 rfl rfl (by kernel_rfl) (by kernel_rfl) (by kernel_rfl) (p_move rfl) ?_
          refine d_take 5 rfl rfl (by kernel_rfl) (by kernel_rfl) (by kernel_rfl) (p_move rfl) ?_
          refine d_take 6 rfl rfl (by kernel_rfl) (by kernel_rfl) (by kernel_rfl) (p_bin rfl rfl rfl) ?_
          obtain ⟨z14, hz15⟩ := vw_get (xs := q) (n := (((m : Int)).toNat + (IntKind.i64.wrap ((j : Int) - 1)).toNat)) (by first | omega | (simp only [IntKind.wrap_i64]; omega) | (simp only [List.length_append, List.length_take, List.length_replicate, List.length_drop]; omega))
          refine d_take 7 rfl rfl (by kernel_rfl) (by kernel_rfl) (by kernel_rfl) (p_indexv (by kernel_rfl) rfl rfl (by first | omega | (simp only [IntKind.wrap_i64]; omega) | (simp only [List.length_append, List.length_take, List.length_replicate, List.length_drop]; omega)) (by first | omega | (simp only [IntKind.wrap_i64]; omega) | (simp only [List.length_append, List.length_take, List.length_replicate, List.length_drop]; omega))) ?_
          refine d_take 8 rfl rfl (by kernel_rfl) (by kernel_rfl) (by kernel_rfl) (p_load1o (by kernel_rfl) rfl rfl rfl hz15) ?_
          refine d_take 9 rfl rfl (by kernel_rfl) (by kernel_rfl) (by kernel_rfl) (p_bin rfl rfl rfl) ?_
          refine d_end (by kernel_rfl) ?_
          refine t_cond rfl (fun h17 => ?_) (fun h17 => ?_)
          ·
            have h17' := h17
            try simp only [decide_eq_true_eq, decide_eq_false_iff_not, Bool.not_eq_true', Bool.not_eq_false', Bool.not_false, Bool.not_true] at h17'
            refine t_seq ?_
            refine t_region ?_
            refine r_op (o_move rfl rfl) ?_
            refine r_op (o_move rfl rfl) ?_
            refine r_op (o_move rfl rfl) ?_
            refine r_op (o_move rfl rfl) ?_
            refine r_op (o_indexv rfl (by kernel_rfl) rfl rfl (by first | omega | (simp only [IntKind.wrap_i64]; omega) | (simp only [List.length_append, List.length_take, List.length_replicate, List.length_drop]; omega)) (by first | omega | (simp only [IntKind.wrap_i64]; omega) | (simp only [List.length_append, List.length_take, List.length_replicate, List.length_drop]; omega))) ?_
            refine r_op (o_load1o rfl (by kernel_rfl) rfl rfl rfl hz12) ?_
            obtain ⟨z18, hz19, b20⟩ := at_get (xs := q) (n := (k : Int)) (by first | omega | (simp only [IntKind.wrap_i64]; omega) | (simp only [List.length_append, List.length_take, List.length_replicate, List.length_drop]; omega)) (by first | omega | (simp only [IntKind.wrap_i64]; omega) | (simp only [List.length_append, List.length_take, List.length_replicate, List.length_drop]; omega))
            refine r_op (o_indexo rfl (by kernel_rfl) rfl rfl rfl b20 (at_lt b20 hz19)) ?_
            refine r_op (o_storeo (z11) (n := 1) (by kernel_rfl) rfl rfl hz19 rfl rfl rfl rfl (.cons .sc .nil) rfl (fun j h1 h2 => by simp at h1 h2; omega)) ?_
            refine r_end ?_
            refine t_region ?_
            refine r_op (o_move rfl rfl) ?_
            refine r_op (o_bin rfl rfl rfl rfl) ?_
            refine r_op (o_assign rfl rfl) ?_
            refine r_end ?_
            refine t_endblock ?_
            refine t_region ?_
            refine r_op (o_move rfl rfl) ?_
            refine r_op (o_bin rfl rfl rfl rfl) ?_
            refine r_op (o_assign rfl rfl) ?_
            refine r_end ?_
            refine t_le ?_ (ih1 (j + 1, k + 1, (q).set ((k : Int)).toNat (z11)) (by (try dsimp only); omega) (by (try dsimp only); exact ⟨by omega, cmpK_more (j := m + j) (n := ((m : Int)).toNat + (IntKind.i64.wrap ((j : Int) - 1)).toNat) j1 (by assumption) (by assumption) (by simp only [IntKind.wrap_i64]; omega) (by omega)⟩))
            exact ⟨⟨rfl, ⟨(eqI (wr64 (by omega) (by omega))), ⟨rfl, ⟨(eqI (wr64 (by omega) (by omega))), trivial⟩⟩⟩⟩, ⟨rfl, trivial⟩, rfl⟩
          ·
            have h17' := h17
            try simp only [decide_eq_true_eq, decide_eq_false_iff_not, Bool.not_eq_true', Bool.not_eq_false', Bool.not_false, Bool.not_true] at h17'
            refine t_skip ?_
            refine t_endblock ?_
            refine t_region ?_
            refine r_op (o_move rfl rfl) ?_
            refine r_op (o_bin rfl rfl rfl rfl) ?_
            refine r_op (o_assign rfl rfl) ?_
            refine r_end ?_
            refine t_le ?_ (ih1 (j + 1, k, q) (by (try dsimp only); omega) (by (try dsimp only); exact ⟨by omega, cmpK_same (j := m + j) (n := ((m : Int)).toNat + (IntKind.i64.wrap ((j : Int) - 1)).toNat) j1 (by assumption) (by assumption) (by simp only [IntKind.wrap_i64]; omega) (by omega)⟩))
            exact ⟨⟨rfl, ⟨rfl, ⟨rfl, ⟨(eqI (wr64 (by omega) (by omega))), trivial⟩⟩⟩⟩, ⟨rfl, trivial⟩, rfl⟩
        ·
          have h10' := h10
          try simp only [decide_eq_true_eq, decide_eq_false_iff_not, Bool.not_eq_true', Bool.not_eq_false', Bool.not_false, Bool.not_true] at h10'
          refine t_exit rfl ?_
          refine t_seq ?_
          refine t_region ?_
          refine r_op (o_move rfl rfl) ?_
          refine r_op (o_move rfl rfl) ?_
          refine r_op (o_subvl rfl (by kernel_rfl) rfl rfl rfl (by first | omega | (simp only [IntKind.wrap_i64]; omega) | (simp only [List.length_append, List.length_take, List.length_replicate, List.length_drop]; omega)) (by first | omega | (simp only [IntKind.wrap_i64]; omega) | (simp only [List.length_append, List.length_take, List.length_replicate, List.length_drop]; omega))) ?_
          refine r_op (o_clearv (0) rfl rfl Try.underlying60 (by kernel_rfl) rfl (.v rfl) (by first | omega | (simp only [IntKind.wrap_i64]; omega) | (simp only [List.length_append, List.length_take, List.length_replicate, List.length_drop]; omega)) (by first | omega | (simp only [IntKind.wrap_i64]; omega) | (simp only [List.length_append, List.length_take, List.length_replicate, List.length_drop]; omega))) ?_
          refine r_end ?_
          refine t_seq ?_
          refine t_region ?_
          refine r_op (o_move rfl rfl) ?_
          refine r_op (o_move rfl rfl) ?_
          refine r_op (o_subvh rfl (by kernel_rfl) rfl rfl rfl (by first | omega | (simp only [IntKind.wrap_i64]; omega) | (simp only [List.length_append, List.length_take, List.length_replicate, List.length_drop]; omega)) (by first | omega | (simp only [IntKind.wrap_i64]; omega) | (simp only [List.length_append, List.length_take, List.length_replicate, List.length_drop]; omega)) (by first | omega | (simp only [IntKind.wrap_i64]; omega) | (simp only [List.length_append, List.length_take, List.length_replicate, List.length_drop]; omega))) ?_
          refine r_op (o_assign rfl rfl) ?_
          refine r_end ?_
          refine gt_shrink 2 0 rfl rfl (by first | omega | (simp only [IntKind.wrap_i64]; omega) | (simp only [List.length_append, List.length_take, List.length_replicate, List.length_drop]; omega)) (by first | omega | (simp only [IntKind.wrap_i64]; omega) | (simp only [List.length_append, List.length_take, List.length_replicate, List.length_drop]; omega)) ?_
          refine t_ret Try.func126 (.tmp rfl .nil) rfl fun E S w u hI hd => ?_
          refine postM_mk hI hd ?_ ⟨eqR ?_, trivial⟩ rfl rfl <;> clear hI hd <;> (try clear ih0) <;> (try clear ih1)
          all_goals first | rfl | (rw [List.append_assoc]; exact cmpK_fin j1 (by omega))
      ·
        have h9' := h9
        try simp only [decide_eq_true_eq, decide_eq_false_iff_not, Bool.not_eq_true', Bool.not_eq_false', Bool.not_false, Bool.not_true] at h9'
        refine t_skip ?_
        refine t_endblock ?_
        refine t_region ?_
        refine r_op (o_move rfl rfl) ?_
        refine r_op (o_bin rfl rfl rfl rfl) ?_
        refine r_op (o_assign rfl rfl) ?_
        refine r_end ?_
        refine t_le ?_ (ih0 (m + 1) (by (try dsimp only); omega) (by (try dsimp only); exact ⟨by omega, by omega, cmp_first i3 (by assumption) (by assumption) (by simp only [IntKind.wrap_i64]; omega) i1 (by omega)⟩))
        exact ⟨⟨rfl, ⟨(eqI (wr64 (by omega) (by omega))), trivial⟩⟩, ⟨rfl, trivial⟩, rfl⟩
    ·
      have h2' := h2
      try simp only [decide_eq_true_eq, decide_eq_false_iff_not, Bool.not_eq_true', Bool.not_eq_false', Bool.not_false, Bool.not_true] at h2'
      refine t_exit rfl ?_
      refine t_seq ?_
      refine t_region ?_
      refine r_op (o_move rfl rfl) ?_
      refine r_op (o_assign rfl rfl) ?_
      refine r_end ?_
      refine gt_unpin 0 rfl ?_
      refine t_ret Try.func126 (.tmp rfl .nil) rfl fun E S w u hI hd => ?_
      refine postM_mk hI hd ?_ ⟨eqR ?_, trivial⟩ rfl rfl <;> clear hI hd <;> (try clear ih0) <;> (try clear ih1)
      all_goals first | rfl | (rw [List.take_of_length_le (by omega)] at i3; exact i3.symm)
end Go.Eng
