/- What the functions that FnMatches reaches answer. -/
import Derived.Test.YtjjoopbebildfaaGreatFnsFnMatchesp0
import Derived.Test.YtjjoopbebildfaaGreatEngZA
import Derived.Test.YtjjoopbebildfaaGreatChecked
set_option linter.unusedVariables false
set_option linter.unusedSimpArgs false
namespace Go.Eng
open Go Go.RowKit Go.Proofs
set_option maxHeartbeats 1000000 in
set_option maxRecDepth 10000 in
theorem c_spec_l9Rule (code : List Int) (i h : Int) (hc : code.length ≤ 1048576) (hi0 : 0 ≤ i) (hi1 : i ≤ code.length) : MuG Tryz.prog 106 [.c (.ptr 0 0)] [.t none (.sl 1 encU (code)), .t none (.v (.int .i64 (i))), .t none (.v (.int .i64 (h)))] (fun (⟨b, hs, e, lv, rv, i2, h2⟩ : Atoms × Atoms × Bool × Int × Int × Int × Int) => depL (b, hs, e, lv, rv) ∧ hs.length ≤ 2 ∧ 0 ≤ i2 ∧ i2 ≤ code.length) (fun (⟨b, hs, e, lv, rv, i2, h2⟩ : Atoms × Atoms × Bool × Int × Int × Int × Int) => [.t none (.sl 1 encU (code)), .t none (.v (.int .i64 (i2))), .t none (.v (.int .i64 (h2)))]) (fun (⟨b, hs, e, lv, rv, i2, h2⟩ : Atoms × Atoms × Bool × Int × Int × Int × Int) => [(5, some (.row none 40 true 2 (enS2 encI (enSl 1 encI)) (b))), (6, some (.row none 40 true 2 (enS2 encI (enSl 1 encI)) (hs)))]) 7 (fun (⟨b, hs, e, lv, rv, i2, h2⟩ : Atoms × Atoms × Bool × Int × Int × Int × Int) => .agg [.own 5, .own 6, .t none (.v (.bool (e))), .t none (.v (.int .i64 (lv))), .t none (.v (.int .i64 (rv)))]) := by
  refine mu_enterG Tryz.func106 rfl (Nat.le_of_ble_eq_true rfl) fun v0 w S M hM => ?_
  refine t_seq ?_
  refine t_region ?_
  refine r_op (o_alloc 1 (zs := [.slice none 0 0, .slice none 0 0, .bool (false), .int .i64 (0), .int .i64 (0)]) rfl rfl (by kernel_rfl) rfl) ?_
  refine r_end ?_
  refine t_seq ?_
  refine t_seq ?_
  refine t_region ?_
  refine r_op (o_move rfl rfl) ?_
  refine r_opX (o_callGM 0 2 3 (pv := some (v0)) (Go.Proofs.enters_of Tryz.func61 (by kernel_rfl) rfl) (c_spec_l1Once (code) (i) (h) (3) (by omega) (by omega) (by omega) (by omega) (by omega)) rfl rfl (.cur rfl (.cons rfl .nil)) rfl (fun ⟨_, _, _⟩ => rfl) (fun _ => rfl) (fun ⟨_, _, _⟩ => rfl) rfl rfl) ?_
  rintro ⟨⟨b1, i22, h23⟩, hq4⟩
  try dsimp only at hq4
  try dsimp only
  refine r_op (o_not rfl rfl) ?_
  refine r_end ?_
  refine t_cond rfl (fun h6 => ?_) (fun h6 => ?_)
  ·
    have h6' := (bnt h6)
    refine t_seq ?_
    refine t_region ?_
    refine r_op (o_move rfl rfl) ?_
    refine r_opX (o_callGM 0 3 7 (pv := some (v0)) (Go.Proofs.enters_of Tryz.func159 (by kernel_rfl) rfl) (c_spec_l9Known ((code)) ((i22)) ((h23)) (by omega) (by omega) (by omega)) rfl rfl (.cur rfl .nil) rfl (fun ⟨_, _, _, _, _, _, _⟩ => rfl) (fun _ => rfl) (fun ⟨_, _, _, _, _, _, _⟩ => rfl) rfl rfl) ?_
    rintro ⟨⟨b7, hs8, e9, lv10, rv11, i212, h213⟩, hq14⟩
    try dsimp only at hq14
    try dsimp only
    obtain ⟨q15, q16, q17⟩ := hq14
    refine r_op (o_storeb (n := 5) (by kernel_rfl) rfl rfl rfl rfl rfl rfl) ?_
    refine r_end ?_
    refine t_ret Tryz.func106 (.cells (n := 5) (by kernel_rfl) (by kernel_rfl) rfl rfl rfl .nil) rfl fun E S w u hI hd => ?_
    refine post_mkG (⟨(b7), (hs8), (e9), (lv10), (rv11), (i212), (h213)⟩) ?_ hI hd ?_ ⟨rfl, ⟨rfl, ⟨rfl, trivial⟩⟩⟩ rfl rfl <;> clear hI hd <;> (try clear ih0) <;> (try clear ih1)
    · (try dsimp only) <;> ((exact ⟨by assumption, by assumption, by omega⟩))
    · rfl
  ·
    have h6' := (bnf h6)
    refine t_skip ?_
    refine t_seq ?_
    refine t_region ?_
    refine r_op (o_build rfl (pl := [(0, 1), (1, 1), (2, 1), (3, 1), (4, 1)]) (zs := [.slice none 0 0, .slice none 0 0, .bool (false), .int .i64 (0), .int .i64 (0)]) (by kernel_rfl) (by kernel_rfl) rfl rfl rfl) ?_
    refine r_op (o_alloc 3 (zs := [.slice none 0 0, .slice none 0 0, .bool (false), .int .i64 (0), .int .i64 (0)]) rfl rfl (by kernel_rfl) rfl) ?_
    refine r_op (o_storeb (n := 5) (by kernel_rfl) rfl rfl rfl rfl rfl rfl) ?_
    refine r_end ?_
    refine t_seq ?_
    refine t_seq ?_
    refine t_region ?_
    refine r_op (o_move rfl rfl) ?_
    refine r_opX (o_callGM 0 4 5 (pv := some (v0)) (Go.Proofs.enters_of Tryz.func81 (by kernel_rfl) rfl) (c_spec_l1Below ((code)) ((i22)) ((h23)) (2) (by omega) (by omega) (by omega) (by omega) (by omega)) rfl rfl (.cur rfl (.cons rfl .nil)) rfl (fun ⟨_, _, _⟩ => rfl) (fun _ => rfl) (fun ⟨_, _, _⟩ => rfl) rfl rfl) ?_
    rintro ⟨⟨x18, i219, h220⟩, hq21⟩
    try dsimp only at hq21
    try dsimp only
    obtain ⟨q22, q23⟩ := hq21
    refine r_op (o_bin rfl rfl rfl rfl) ?_
    refine r_op (o_assign rfl rfl) ?_
    refine r_end ?_
    refine t_block ?_
    refine gt_nilb 5 (b := 3) (o := 0) (et := 40) (sz := 2) true (enS2 encI (enSl 1 encI)) rfl rfl rfl ?_
    refine gt_nilb 6 (b := 3) (o := 1) (et := 40) (sz := 2) true (enS2 encI (enSl 1 encI)) rfl rfl rfl ?_
    refine t_loopL (fun (kk, bs, i3, h3) => ⟨[(0, some (.c (.ptr 0 0))), (2, some (.c (.ptr 1 0))), (3, some (.c (.ptr 3 0))), (4, some (.c (.t none (.v (.int .i64 (kk))))))], [(0, some (.pbox (v0) [.t none (.sl 1 encU (code)), .t none (.v (.int .i64 (i3))), .t none (.v (.int .i64 (h3)))])), (1, some (.box [.t none (.v (.slice none 0 0)), .t none (.v (.slice none 0 0)), .t none (.v (.bool (false))), .t none (.v (.int .i64 (0))), .t none (.v (.int .i64 (0)))])), (3, some (.box [.own 5, .own 6, .t none (.v (.bool (false))), .t none (.v (.int .i64 (0))), .t none (.v (.int .i64 (0)))])), (5, some (.row none 40 true 2 (enS2 encI (enSl 1 encI)) (bs))), (6, some (.row none 40 true 2 (enS2 encI (enSl 1 encI)) ([])))], 7⟩ : Int × Atoms × Int × Int → St) (fun (kk, bs, i3, h3) => (0 ≤ kk ∧ kk ≤ 2) ∧ (1 ≤ IntKind.i64.wrap (1 + (x18)) ∧ IntKind.i64.wrap (1 + (x18)) ≤ 2) ∧ ((bs.length : Int) + kk = IntKind.i64.wrap (1 + (x18))) ∧ (∀ a ∈ bs, atomL a) ∧ (0 ≤ i3 ∧ i3 ≤ code.length)) (fun (kk, bs, i3, h3) => kk.toNat) (IntKind.i64.wrap (1 + (x18)), [], (i219), (h220)) ⟨⟨rfl, ⟨rfl, ⟨rfl, ⟨rfl, trivial⟩⟩⟩⟩, ⟨rfl, ⟨rfl, ⟨rfl, ⟨rfl, ⟨rfl, trivial⟩⟩⟩⟩⟩, rfl⟩ (by exact ⟨(by (try dsimp only); ((try simp only [IntKind.wrap_i64] at *); omega)), (by (try dsimp only); ((try simp only [IntKind.wrap_i64] at *); omega)), (by (try dsimp only); simp), (fun a ha => by simp at ha), (by (try dsimp only); omega)⟩) ?_
    rintro ⟨kk, bs, i3, h3⟩ hI ih0
    try dsimp only at hI ih0
    obtain ⟨b1, b2, b3, b4, b5⟩ := hI
    refine t_seq ?_
    refine t_seq ?_
    refine t_region ?_
    refine r_op (o_move rfl rfl) ?_
    refine r_op (o_bin rfl rfl rfl rfl) ?_
    refine r_end ?_
    refine t_cond rfl (fun h24 => ?_) (fun h24 => ?_)
    ·
      have h24' := of_decide_eq_true h24
      refine t_skip ?_
      refine t_seq ?_
      refine t_block ?_
      refine t_draw (fun i => !(Nat.beq i 4 || Nat.beq i 5 || Nat.beq i 7 || Nat.beq i 9)) (by kernel_rfl) ?_
      refine d_takeP 0 rfl rfl (by kernel_rfl) (by kernel_rfl) (by kernel_rfl) (pw_fieldb (off := 0) (by kernel_rfl) rfl) ?_
      refine d_takeP 2 rfl rfl (by kernel_rfl) (by kernel_rfl) (by kernel_rfl) (pw_move rfl) ?_
      refine d_take 3 rfl rfl (by kernel_rfl) (by kernel_rfl) (by kernel_rfl) (p_move rfl) ?_
      refine d_twoX 1 4 rfl rfl (by kernel_rfl) rfl rfl (osX (o_load1b rfl (by kernel_rfl) rfl rfl rfl)) (o_callGM 0 7 8 (pv := some (v0)) (Go.Proofs.enters_of Tryz.func81 (by kernel_rfl) rfl) (c_spec_l1Below (code) (i3) (h3) (5) (by omega) (by omega) (by omega) (by omega) (by omega)) rfl rfl (.cur rfl (.cons rfl .nil)) rfl (fun ⟨_, _, _⟩ => rfl) (fun _ => rfl) (fun ⟨_, _, _⟩ => rfl) rfl rfl) ?_ ?_
      ·
        rintro ⟨⟩
        refine d_onlyX 4 rfl (by kernel_rfl) rfl (o_callGM 0 7 8 (pv := some (v0)) (Go.Proofs.enters_of Tryz.func81 (by kernel_rfl) rfl) (c_spec_l1Below (code) (i3) (h3) (5) (by omega) (by omega) (by omega) (by omega) (by omega)) rfl rfl (.cur rfl (.cons rfl .nil)) rfl (fun ⟨_, _, _⟩ => rfl) (fun _ => rfl) (fun ⟨_, _, _⟩ => rfl) rfl rfl) ?_
        rintro ⟨⟨x31, i232, h233⟩, hq34⟩
        try dsimp only at hq34
        try dsimp only
        obtain ⟨q35, q36⟩ := hq34
        refine d_onlyX 5 rfl (by kernel_rfl) rfl (o_callGM 0 8 13 (pv := some (v0)) (Go.Proofs.enters_of Tryz.func160 (by kernel_rfl) rfl) (c_spec_l9Atom ((code)) ((i232)) ((h233)) ((x31)) (3) (by omega) (by omega) (by omega) (by omega) (by omega)) rfl rfl (.cur rfl (.cons rfl (.cons rfl .nil))) rfl (fun ⟨_, _, _⟩ => rfl) (fun _ => rfl) (fun ⟨_, _, _⟩ => rfl) rfl rfl) ?_
        rintro ⟨⟨ts37, i238, h239⟩, hq40⟩
        try dsimp only at hq40
        try dsimp only
        obtain ⟨q41, q42, q43⟩ := hq40
        have hy9 : ∀ x ∈ ts37, -3 ≤ x ∧ x ≤ 4 := (by assumption)
        refine d_only 6 rfl (by kernel_rfl) rfl (o_litS 13 (e := 40) (sz := 2) (zs := [.int .i64 (0), .slice none 0 0]) rfl rfl (by kernel_rfl) rfl rfl rfl rfl rfl) ?_
        refine d_only 7 rfl (by kernel_rfl) rfl (o_append 5 (e := 40) (sz := 2) (by' := 32) ((((x31)), (ts37))) rfl (by kernel_rfl) rfl rfl rfl rfl rfl rfl (.cons .sc (.take (.own rfl) rfl .nil)) rfl (by omega) (by omega)) ?_
        refine d_take 8 rfl rfl (by kernel_rfl) (by kernel_rfl) (by kernel_rfl) (p_fieldb (off := 0) (by kernel_rfl) rfl) ?_
        refine d_only 9 rfl (by kernel_rfl) rfl (o_storeb (n := 1) (by kernel_rfl) rfl rfl rfl rfl rfl rfl) ?_
        refine d_end (by kernel_rfl) ?_
        refine t_endblock ?_
        refine t_region ?_
        refine r_op (o_move rfl rfl) ?_
        refine r_op (o_bin rfl rfl rfl rfl) ?_
        refine r_op (o_assign rfl rfl) ?_
        refine r_end ?_
        refine t_le ?_ (ih0 (IntKind.i64.wrap (kk - 1), bs ++ [(((x31)), (ts37))], (i238), (h239)) (by (try dsimp only); ((try simp only [IntKind.wrap_i64] at *); omega)) (by (try dsimp only); exact ⟨(by ((try simp only [IntKind.wrap_i64] at *); omega)), b2, (by (simp only [List.length_append, List.length_singleton]); ((try simp only [IntKind.wrap_i64] at *); omega)), mem_snoc b4 ⟨(by ((try simp only [IntKind.wrap_i64] at *); omega)), (by (try dsimp only); omega), (fun x hx => by have e9 := hy9 x hx; omega)⟩, by omega⟩))
        exact ⟨⟨rfl, ⟨rfl, ⟨rfl, ⟨rfl, trivial⟩⟩⟩⟩, ⟨rfl, ⟨rfl, ⟨rfl, ⟨rfl, ⟨rfl, trivial⟩⟩⟩⟩⟩, rfl⟩
      ·
        rintro ⟨⟨x25, i226, h227⟩, hq28⟩
        try dsimp only at hq28
        try dsimp only
        obtain ⟨q29, q30⟩ := hq28
        refine d_twoX 1 5 rfl rfl (by kernel_rfl) rfl rfl (osX (o_load1b rfl (by kernel_rfl) rfl rfl rfl)) (o_callGM 0 8 13 (pv := some (v0)) (Go.Proofs.enters_of Tryz.func160 (by kernel_rfl) rfl) (c_spec_l9Atom ((code)) ((i226)) ((h227)) ((x25)) (3) (by omega) (by omega) (by omega) (by omega) (by omega)) rfl rfl (.cur rfl (.cons rfl (.cons rfl .nil))) rfl (fun ⟨_, _, _⟩ => rfl) (fun _ => rfl) (fun ⟨_, _, _⟩ => rfl) rfl rfl) ?_ ?_
        ·
          rintro ⟨⟩
          refine d_onlyX 5 rfl (by kernel_rfl) rfl (o_callGM 0 8 13 (pv := some (v0)) (Go.Proofs.enters_of Tryz.func160 (by kernel_rfl) rfl) (c_spec_l9Atom ((code)) ((i226)) ((h227)) ((x25)) (3) (by omega) (by omega) (by omega) (by omega) (by omega)) rfl rfl (.cur rfl (.cons rfl (.cons rfl .nil))) rfl (fun ⟨_, _, _⟩ => rfl) (fun _ => rfl) (fun ⟨_, _, _⟩ => rfl) rfl rfl) ?_
          rintro ⟨⟨ts51, i252, h253⟩, hq54⟩
          try dsimp only at hq54
          try dsimp only
          obtain ⟨q55, q56, q57⟩ := hq54
          have hy9 : ∀ x ∈ ts51, -3 ≤ x ∧ x ≤ 4 := (by assumption)
          refine d_only 6 rfl (by kernel_rfl) rfl (o_litS 13 (e := 40) (sz := 2) (zs := [.int .i64 (0), .slice none 0 0]) rfl rfl (by kernel_rfl) rfl rfl rfl rfl rfl) ?_
          refine d_only 7 rfl (by kernel_rfl) rfl (o_append 5 (e := 40) (sz := 2) (by' := 32) ((((x25)), (ts51))) rfl (by kernel_rfl) rfl rfl rfl rfl rfl rfl (.cons .sc (.take (.own rfl) rfl .nil)) rfl (by omega) (by omega)) ?_
          refine d_take 8 rfl rfl (by kernel_rfl) (by kernel_rfl) (by kernel_rfl) (p_fieldb (off := 0) (by kernel_rfl) rfl) ?_
          refine d_only 9 rfl (by kernel_rfl) rfl (o_storeb (n := 1) (by kernel_rfl) rfl rfl rfl rfl rfl rfl) ?_
          refine d_end (by kernel_rfl) ?_
          refine t_endblock ?_
          refine t_region ?_
          refine r_op (o_move rfl rfl) ?_
          refine r_op (o_bin rfl rfl rfl rfl) ?_
          refine r_op (o_assign rfl rfl) ?_
          refine r_end ?_
          refine t_le ?_ (ih0 (IntKind.i64.wrap (kk - 1), bs ++ [(((x25)), (ts51))], (i252), (h253)) (by (try dsimp only); ((try simp only [IntKind.wrap_i64] at *); omega)) (by (try dsimp only); exact ⟨(by ((try simp only [IntKind.wrap_i64] at *); omega)), b2, (by (simp only [List.length_append, List.length_singleton]); ((try simp only [IntKind.wrap_i64] at *); omega)), mem_snoc b4 ⟨(by ((try simp only [IntKind.wrap_i64] at *); omega)), (by (try dsimp only); omega), (fun x hx => by have e9 := hy9 x hx; omega)⟩, by omega⟩))
          exact ⟨⟨rfl, ⟨rfl, ⟨rfl, ⟨rfl, trivial⟩⟩⟩⟩, ⟨rfl, ⟨rfl, ⟨rfl, ⟨rfl, ⟨rfl, trivial⟩⟩⟩⟩⟩, rfl⟩
        ·
          rintro ⟨⟨ts44, i245, h246⟩, hq47⟩
          try dsimp only at hq47
          try dsimp only
          obtain ⟨q48, q49, q50⟩ := hq47
          have hy9 : ∀ x ∈ ts44, -3 ≤ x ∧ x ≤ 4 := (by assumption)
          refine d_take 1 rfl rfl (by kernel_rfl) (by kernel_rfl) (by kernel_rfl) (p_load1b (by kernel_rfl) rfl rfl rfl) ?_
          refine d_only 6 rfl (by kernel_rfl) rfl (o_litS 13 (e := 40) (sz := 2) (zs := [.int .i64 (0), .slice none 0 0]) rfl rfl (by kernel_rfl) rfl rfl rfl rfl rfl) ?_
          refine d_only 7 rfl (by kernel_rfl) rfl (o_append 5 (e := 40) (sz := 2) (by' := 32) ((((x25)), (ts44))) rfl (by kernel_rfl) rfl rfl rfl rfl rfl rfl (.cons .sc (.take (.own rfl) rfl .nil)) rfl (by omega) (by omega)) ?_
          refine d_take 8 rfl rfl (by kernel_rfl) (by kernel_rfl) (by kernel_rfl) (p_fieldb (off := 0) (by kernel_rfl) rfl) ?_
          refine d_only 9 rfl (by kernel_rfl) rfl (o_storeb (n := 1) (by kernel_rfl) rfl rfl rfl rfl rfl rfl) ?_
          refine d_end (by kernel_rfl) ?_
          refine t_endblock ?_
          refine t_region ?_
          refine r_op (o_move rfl rfl) ?_
          refine r_op (o_bin rfl rfl rfl rfl) ?_
          refine r_op (o_assign rfl rfl) ?_
          refine r_end ?_
          refine t_le ?_ (ih0 (IntKind.i64.wrap (kk - 1), bs ++ [(((x25)), (ts44))], (i245), (h246)) (by (try dsimp only); ((try simp only [IntKind.wrap_i64] at *); omega)) (by (try dsimp only); exact ⟨(by ((try simp only [IntKind.wrap_i64] at *); omega)), b2, (by (simp only [List.length_append, List.length_singleton]); ((try simp only [IntKind.wrap_i64] at *); omega)), mem_snoc b4 ⟨(by ((try simp only [IntKind.wrap_i64] at *); omega)), (by (try dsimp only); omega), (fun x hx => by have e9 := hy9 x hx; omega)⟩, by omega⟩))
          exact ⟨⟨rfl, ⟨rfl, ⟨rfl, ⟨rfl, trivial⟩⟩⟩⟩, ⟨rfl, ⟨rfl, ⟨rfl, ⟨rfl, ⟨rfl, trivial⟩⟩⟩⟩⟩, rfl⟩
    ·
      have h24' := of_decide_eq_false h24
      refine t_exit rfl ?_
      refine t_seq ?_
      refine t_region ?_
      refine r_op (o_fieldb rfl (off := 0) (by kernel_rfl) rfl) ?_
      refine r_op (o_load1b rfl (by kernel_rfl) rfl rfl rfl) ?_
      refine r_op (o_call 7 8 false (Go.Proofs.enters_of Tryz.func68 (by kernel_rfl) rfl) (c_spec_Variables (bs) (by (have e7 := szA_L b4; omega))) rfl (.cons rfl (.c (.own rfl)) .nil) rfl rfl rfl) ?_
      refine r_op (o_assign rfl rfl) ?_
      refine r_end ?_
      refine t_seq ?_
      refine t_seq ?_
      refine t_region ?_
      refine r_op (o_move rfl rfl) ?_
      refine r_op (o_leno rfl rfl rfl rfl) ?_
      refine r_op (o_bin rfl rfl rfl rfl) ?_
      refine r_op (o_move rfl rfl) ?_
      refine r_guard rfl rfl rfl (fun g58 => ?_) (fun g58 => ?_)
      ·
        have g58' := of_decide_eq_true g58
        refine r_op (o_move rfl rfl) ?_
        refine r_guard rfl rfl rfl (fun _ => ?_) (nc g58)
        refine r_opX (o_callGM 0 8 9 (pv := some (v0)) (Go.Proofs.enters_of Tryz.func61 (by kernel_rfl) rfl) (c_spec_l1Once (code) (i3) (h3) (3) (by omega) (by omega) (by omega) (by omega) (by omega)) rfl rfl (.cur rfl (.cons rfl .nil)) rfl (fun ⟨_, _, _⟩ => rfl) (fun _ => rfl) (fun ⟨_, _, _⟩ => rfl) rfl rfl) ?_
        rintro ⟨⟨b59, i260, h261⟩, hq62⟩
        try dsimp only at hq62
        try dsimp only
        refine r_op (o_pickT rfl rfl g58 rfl) ?_
        refine r_end ?_
        refine t_cond rfl (fun h64 => ?_) (fun h64 => ?_)
        ·
          have h64' := h64
          refine t_seq ?_
          refine t_region ?_
          refine r_op (o_fieldb rfl (off := 2) (by kernel_rfl) rfl) ?_
          refine r_op (o_storeb (n := 1) (by kernel_rfl) rfl rfl rfl rfl rfl rfl) ?_
          refine r_end ?_
          refine t_seq ?_
          refine t_region ?_
          refine r_op (o_move rfl rfl) ?_
          obtain ⟨z65, hz66, b67⟩ := at_get (xs := setI (varsL (bs))) (n := 0) (by omega) (by omega)
          refine r_op (o_indexo rfl (by kernel_rfl) rfl rfl rfl b67 (at_lt b67 hz66)) ?_
          refine r_op (o_load1o rfl (by kernel_rfl) rfl rfl rfl hz66) ?_
          refine r_op (o_fieldb rfl (off := 3) (by kernel_rfl) rfl) ?_
          refine r_op (o_storeb (n := 1) (by kernel_rfl) rfl rfl rfl rfl rfl rfl) ?_
          refine r_end ?_
          refine t_seq ?_
          refine t_region ?_
          refine r_op (o_move rfl rfl) ?_
          obtain ⟨z68, hz69, b70⟩ := at_get (xs := setI (varsL (bs))) (n := 1) (by omega) (by omega)
          refine r_op (o_indexo rfl (by kernel_rfl) rfl rfl rfl b70 (at_lt b70 hz69)) ?_
          refine r_op (o_load1o rfl (by kernel_rfl) rfl rfl rfl hz69) ?_
          refine r_op (o_fieldb rfl (off := 4) (by kernel_rfl) rfl) ?_
          refine r_op (o_storeb (n := 1) (by kernel_rfl) rfl rfl rfl rfl rfl rfl) ?_
          refine r_end ?_
          refine t_seq ?_
          refine t_region ?_
          refine r_op (o_loadAb rfl (n := 5) (by kernel_rfl) (by kernel_rfl) rfl rfl rfl) ?_
          refine r_op (o_storeb (n := 5) (by kernel_rfl) rfl rfl rfl rfl rfl rfl) ?_
          refine r_end ?_
          refine t_ret Tryz.func106 (.cells (n := 5) (by kernel_rfl) (by kernel_rfl) rfl rfl rfl .nil) rfl fun E S w u hI hd => ?_
          refine post_mkG (⟨bs, [], true, z65, z68, (i260), (h261)⟩) ?_ hI hd ?_ ⟨rfl, ⟨rfl, ⟨rfl, trivial⟩⟩⟩ rfl rfl <;> clear hI hd <;> (try clear ih0) <;> (try clear ih1)
          · (try dsimp only) <;> ((refine ⟨⟨by (try dsimp only); omega, by (try dsimp only); (simp; done), b4, (by (intro a ha; simp at ha)), ?_, ?_⟩, by (simp; done), by omega⟩ <;> (try dsimp only) <;> (have e1 := vars_in b4 _ ((setI_mem _ _).1 (List.mem_of_getElem? hz66)); have e2 := vars_in b4 _ ((setI_mem _ _).1 (List.mem_of_getElem? hz69)); omega)))
          · rfl
        ·
          have h64' := h64
          refine t_skip ?_
          refine t_seq ?_
          refine t_seq ?_
          refine t_region ?_
          refine r_op (o_move rfl rfl) ?_
          refine r_opX (o_callGM 0 9 10 (pv := some (v0)) (Go.Proofs.enters_of Tryz.func81 (by kernel_rfl) rfl) (c_spec_l1Below ((code)) ((i260)) ((h261)) (2) (by omega) (by omega) (by omega) (by omega) (by omega)) rfl rfl (.cur rfl (.cons rfl .nil)) rfl (fun ⟨_, _, _⟩ => rfl) (fun _ => rfl) (fun ⟨_, _, _⟩ => rfl) rfl rfl) ?_
          rintro ⟨⟨x71, i272, h273⟩, hq74⟩
          try dsimp only at hq74
          try dsimp only
          obtain ⟨q75, q76⟩ := hq74
          refine r_op (o_bin rfl rfl rfl rfl) ?_
          refine r_op (o_assign rfl rfl) ?_
          refine r_end ?_
          refine t_block ?_
          refine t_loopL (fun (kk, gs, i3, h3) => ⟨[(0, some (.c (.ptr 0 0))), (2, some (.c (.ptr 1 0))), (3, some (.c (.ptr 3 0))), (6, some (.c (.t none (.v (.int .i64 (kk))))))], [(0, some (.pbox (v0) [.t none (.sl 1 encU (code)), .t none (.v (.int .i64 (i3))), .t none (.v (.int .i64 (h3)))])), (1, some (.box [.t none (.v (.slice none 0 0)), .t none (.v (.slice none 0 0)), .t none (.v (.bool (false))), .t none (.v (.int .i64 (0))), .t none (.v (.int .i64 (0)))])), (3, some (.box [.own 5, .own 6, .t none (.v (.bool (false))), .t none (.v (.int .i64 (0))), .t none (.v (.int .i64 (0)))])), (5, some (.row none 40 true 2 (enS2 encI (enSl 1 encI)) (bs))), (6, some (.row none 40 true 2 (enS2 encI (enSl 1 encI)) (gs))), (7, some (.row none 3 true 1 encI (setI (varsL (bs)))))], 10⟩ : Int × Atoms × Int × Int → St) (fun (kk, gs, i3, h3) => (0 ≤ kk ∧ kk ≤ 2) ∧ (1 ≤ IntKind.i64.wrap (1 + (x71)) ∧ IntKind.i64.wrap (1 + (x71)) ≤ 2) ∧ ((gs.length : Int) + kk = IntKind.i64.wrap (1 + (x71))) ∧ (∀ a ∈ gs, atomL a) ∧ (0 ≤ i3 ∧ i3 ≤ code.length)) (fun (kk, gs, i3, h3) => kk.toNat) (IntKind.i64.wrap (1 + (x71)), [], (i272), (h273)) ⟨⟨rfl, ⟨rfl, ⟨rfl, ⟨rfl, trivial⟩⟩⟩⟩, ⟨rfl, ⟨rfl, ⟨rfl, ⟨rfl, ⟨rfl, ⟨rfl, trivial⟩⟩⟩⟩⟩⟩, rfl⟩ (by exact ⟨(by (try dsimp only); ((try simp only [IntKind.wrap_i64] at *); omega)), (by (try dsimp only); ((try simp only [IntKind.wrap_i64] at *); omega)), (by (try dsimp only); simp), (fun a ha => by simp at ha), (by (try dsimp only); omega)⟩) ?_
          rintro ⟨kk, gs, i3, h3⟩ hI ih1
          try dsimp only at hI ih1
          obtain ⟨g1, g2, g3, g4, g5⟩ := hI
          refine t_seq ?_
          refine t_seq ?_
          refine t_region ?_
          refine r_op (o_move rfl rfl) ?_
          refine r_op (o_bin rfl rfl rfl rfl) ?_
          refine r_end ?_
          refine t_cond rfl (fun h77 => ?_) (fun h77 => ?_)
          ·
            have h77' := of_decide_eq_true h77
            refine t_skip ?_
            refine t_seq ?_
            refine t_block ?_
            refine t_draw (fun i => !(Nat.beq i 4 || Nat.beq i 6 || Nat.beq i 8 || Nat.beq i 10)) (by kernel_rfl) ?_
            refine d_takeP 0 rfl rfl (by kernel_rfl) (by kernel_rfl) (by kernel_rfl) (pw_fieldb (off := 1) (by kernel_rfl) rfl) ?_
            refine d_takeP 2 rfl rfl (by kernel_rfl) (by kernel_rfl) (by kernel_rfl) (pw_move rfl) ?_
            refine d_take 3 rfl rfl (by kernel_rfl) (by kernel_rfl) (by kernel_rfl) (p_move rfl) ?_
            refine d_twoX 1 4 rfl rfl (by kernel_rfl) rfl rfl (osX (o_load1b rfl (by kernel_rfl) rfl rfl rfl)) (o_callGM 0 10 11 (pv := some (v0)) (Go.Proofs.enters_of Tryz.func81 (by kernel_rfl) rfl) (c_spec_l1Below (code) (i3) (h3) (3) (by omega) (by omega) (by omega) (by omega) (by omega)) rfl rfl (.cur rfl (.cons rfl .nil)) rfl (fun ⟨_, _, _⟩ => rfl) (fun _ => rfl) (fun ⟨_, _, _⟩ => rfl) rfl rfl) ?_ ?_
            ·
              rintro ⟨⟩
              refine d_onlyX 4 rfl (by kernel_rfl) rfl (o_callGM 0 10 11 (pv := some (v0)) (Go.Proofs.enters_of Tryz.func81 (by kernel_rfl) rfl) (c_spec_l1Below (code) (i3) (h3) (3) (by omega) (by omega) (by omega) (by omega) (by omega)) rfl rfl (.cur rfl (.cons rfl .nil)) rfl (fun ⟨_, _, _⟩ => rfl) (fun _ => rfl) (fun ⟨_, _, _⟩ => rfl) rfl rfl) ?_
              rintro ⟨⟨x84, i285, h286⟩, hq87⟩
              try dsimp only at hq87
              try dsimp only
              obtain ⟨q88, q89⟩ := hq87
              refine d_take 5 rfl rfl (by kernel_rfl) (by kernel_rfl) (by kernel_rfl) (p_bin rfl rfl rfl) ?_
              refine d_onlyX 6 rfl (by kernel_rfl) rfl (o_callGM 0 11 16 (pv := some (v0)) (Go.Proofs.enters_of Tryz.func160 (by kernel_rfl) rfl) (c_spec_l9Atom ((code)) ((i285)) ((h286)) (IntKind.i64.wrap (2 + (x84))) (4) (by omega) (by omega) (by omega) (by (simp only [IntKind.wrap_i64] at *; omega)) (by omega)) rfl rfl (.cur rfl (.cons rfl (.cons rfl .nil))) rfl (fun ⟨_, _, _⟩ => rfl) (fun _ => rfl) (fun ⟨_, _, _⟩ => rfl) rfl rfl) ?_
              rintro ⟨⟨ts90, i291, h292⟩, hq93⟩
              try dsimp only at hq93
              try dsimp only
              obtain ⟨q94, q95, q96⟩ := hq93
              have hy9 : ∀ x ∈ ts90, -3 ≤ x ∧ x ≤ 4 := (by assumption)
              refine d_only 7 rfl (by kernel_rfl) rfl (o_litS 16 (e := 40) (sz := 2) (zs := [.int .i64 (0), .slice none 0 0]) rfl rfl (by kernel_rfl) rfl rfl rfl rfl rfl) ?_
              refine d_only 8 rfl (by kernel_rfl) rfl (o_append 6 (e := 40) (sz := 2) (by' := 32) (((IntKind.i64.wrap (2 + (x84))), (ts90))) rfl (by kernel_rfl) rfl rfl rfl rfl rfl rfl (.cons .sc (.take (.own rfl) rfl .nil)) rfl (by omega) (by omega)) ?_
              refine d_take 9 rfl rfl (by kernel_rfl) (by kernel_rfl) (by kernel_rfl) (p_fieldb (off := 1) (by kernel_rfl) rfl) ?_
              refine d_only 10 rfl (by kernel_rfl) rfl (o_storeb (n := 1) (by kernel_rfl) rfl rfl rfl rfl rfl rfl) ?_
              refine d_end (by kernel_rfl) ?_
              refine t_endblock ?_
              refine t_region ?_
              refine r_op (o_move rfl rfl) ?_
              refine r_op (o_bin rfl rfl rfl rfl) ?_
              refine r_op (o_assign rfl rfl) ?_
              refine r_end ?_
              refine t_le ?_ (ih1 (IntKind.i64.wrap (kk - 1), gs ++ [((IntKind.i64.wrap (2 + (x84))), (ts90))], (i291), (h292)) (by (try dsimp only); ((try simp only [IntKind.wrap_i64] at *); omega)) (by (try dsimp only); exact ⟨(by ((try simp only [IntKind.wrap_i64] at *); omega)), g2, (by (simp only [List.length_append, List.length_singleton]); ((try simp only [IntKind.wrap_i64] at *); omega)), mem_snoc g4 ⟨(by ((try simp only [IntKind.wrap_i64] at *); omega)), (by (try dsimp only); omega), (fun x hx => by have e9 := hy9 x hx; omega)⟩, by omega⟩))
              exact ⟨⟨rfl, ⟨rfl, ⟨rfl, ⟨rfl, trivial⟩⟩⟩⟩, ⟨rfl, ⟨rfl, ⟨rfl, ⟨rfl, ⟨rfl, ⟨rfl, trivial⟩⟩⟩⟩⟩⟩, rfl⟩
            ·
              rintro ⟨⟨x78, i279, h280⟩, hq81⟩
              try dsimp only at hq81
              try dsimp only
              obtain ⟨q82, q83⟩ := hq81
              refine d_take 5 rfl rfl (by kernel_rfl) (by kernel_rfl) (by kernel_rfl) (p_bin rfl rfl rfl) ?_
              refine d_twoX 1 6 rfl rfl (by kernel_rfl) rfl rfl (osX (o_load1b rfl (by kernel_rfl) rfl rfl rfl)) (o_callGM 0 11 16 (pv := some (v0)) (Go.Proofs.enters_of Tryz.func160 (by kernel_rfl) rfl) (c_spec_l9Atom ((code)) ((i279)) ((h280)) (IntKind.i64.wrap (2 + (x78))) (4) (by omega) (by omega) (by omega) (by (simp only [IntKind.wrap_i64] at *; omega)) (by omega)) rfl rfl (.cur rfl (.cons rfl (.cons rfl .nil))) rfl (fun ⟨_, _, _⟩ => rfl) (fun _ => rfl) (fun ⟨_, _, _⟩ => rfl) rfl rfl) ?_ ?_
              ·
                rintro ⟨⟩
                refine d_onlyX 6 rfl (by kernel_rfl) rfl (o_callGM 0 11 16 (pv := some (v0)) (Go.Proofs.enters_of Tryz.func160 (by kernel_rfl) rfl) (c_spec_l9Atom ((code)) ((i279)) ((h280)) (IntKind.i64.wrap (2 + (x78))) (4) (by omega) (by omega) (by omega) (by (simp only [IntKind.wrap_i64] at *; omega)) (by omega)) rfl rfl (.cur rfl (.cons rfl (.cons rfl .nil))) rfl (fun ⟨_, _, _⟩ => rfl) (fun _ => rfl) (fun ⟨_, _, _⟩ => rfl) rfl rfl) ?_
                rintro ⟨⟨ts104, i2105, h2106⟩, hq107⟩
                try dsimp only at hq107
                try dsimp only
                obtain ⟨q108, q109, q110⟩ := hq107
                have hy9 : ∀ x ∈ ts104, -3 ≤ x ∧ x ≤ 4 := (by assumption)
                refine d_only 7 rfl (by kernel_rfl) rfl (o_litS 16 (e := 40) (sz := 2) (zs := [.int .i64 (0), .slice none 0 0]) rfl rfl (by kernel_rfl) rfl rfl rfl rfl rfl) ?_
                refine d_only 8 rfl (by kernel_rfl) rfl (o_append 6 (e := 40) (sz := 2) (by' := 32) (((IntKind.i64.wrap (2 + (x78))), (ts104))) rfl (by kernel_rfl) rfl rfl rfl rfl rfl rfl (.cons .sc (.take (.own rfl) rfl .nil)) rfl (by omega) (by omega)) ?_
                refine d_take 9 rfl rfl (by kernel_rfl) (by kernel_rfl) (by kernel_rfl) (p_fieldb (off := 1) (by kernel_rfl) rfl) ?_
                refine d_only 10 rfl (by kernel_rfl) rfl (o_storeb (n := 1) (by kernel_rfl) rfl rfl rfl rfl rfl rfl) ?_
                refine d_end (by kernel_rfl) ?_
                refine t_endblock ?_
                refine t_region ?_
                refine r_op (o_move rfl rfl) ?_
                refine r_op (o_bin rfl rfl rfl rfl) ?_
                refine r_op (o_assign rfl rfl) ?_
                refine r_end ?_
                refine t_le ?_ (ih1 (IntKind.i64.wrap (kk - 1), gs ++ [((IntKind.i64.wrap (2 + (x78))), (ts104))], (i2105), (h2106)) (by (try dsimp only); ((try simp only [IntKind.wrap_i64] at *); omega)) (by (try dsimp only); exact ⟨(by ((try simp only [IntKind.wrap_i64] at *); omega)), g2, (by (simp only [List.length_append, List.length_singleton]); ((try simp only [IntKind.wrap_i64] at *); omega)), mem_snoc g4 ⟨(by ((try simp only [IntKind.wrap_i64] at *); omega)), (by (try dsimp only); omega), (fun x hx => by have e9 := hy9 x hx; omega)⟩, by omega⟩))
                exact ⟨⟨rfl, ⟨rfl, ⟨rfl, ⟨rfl, trivial⟩⟩⟩⟩, ⟨rfl, ⟨rfl, ⟨rfl, ⟨rfl, ⟨rfl, ⟨rfl, trivial⟩⟩⟩⟩⟩⟩, rfl⟩
              ·
                rintro ⟨⟨ts97, i298, h299⟩, hq100⟩
                try dsimp only at hq100
                try dsimp only
                obtain ⟨q101, q102, q103⟩ := hq100
                have hy9 : ∀ x ∈ ts97, -3 ≤ x ∧ x ≤ 4 := (by assumption)
                refine d_take 1 rfl rfl (by kernel_rfl) (by kernel_rfl) (by kernel_rfl) (p_load1b (by kernel_rfl) rfl rfl rfl) ?_
                refine d_only 7 rfl (by kernel_rfl) rfl (o_litS 16 (e := 40) (sz := 2) (zs := [.int .i64 (0), .slice none 0 0]) rfl rfl (by kernel_rfl) rfl rfl rfl rfl rfl) ?_
                refine d_only 8 rfl (by kernel_rfl) rfl (o_append 6 (e := 40) (sz := 2) (by' := 32) (((IntKind.i64.wrap (2 + (x78))), (ts97))) rfl (by kernel_rfl) rfl rfl rfl rfl rfl rfl (.cons .sc (.take (.own rfl) rfl .nil)) rfl (by omega) (by omega)) ?_
                refine d_take 9 rfl rfl (by kernel_rfl) (by kernel_rfl) (by kernel_rfl) (p_fieldb (off := 1) (by kernel_rfl) rfl) ?_
                refine d_only 10 rfl (by kernel_rfl) rfl (o_storeb (n := 1) (by kernel_rfl) rfl rfl rfl rfl rfl rfl) ?_
                refine d_end (by kernel_rfl) ?_
                refine t_endblock ?_
                refine t_region ?_
                refine r_op (o_move rfl rfl) ?_
                refine r_op (o_bin rfl rfl rfl rfl) ?_
                refine r_op (o_assign rfl rfl) ?_
                refine r_end ?_
                refine t_le ?_ (ih1 (IntKind.i64.wrap (kk - 1), gs ++ [((IntKind.i64.wrap (2 + (x78))), (ts97))], (i298), (h299)) (by (try dsimp only); ((try simp only [IntKind.wrap_i64] at *); omega)) (by (try dsimp only); exact ⟨(by ((try simp only [IntKind.wrap_i64] at *); omega)), g2, (by (simp only [List.length_append, List.length_singleton]); ((try simp only [IntKind.wrap_i64] at *); omega)), mem_snoc g4 ⟨(by ((try simp only [IntKind.wrap_i64] at *); omega)), (by (try dsimp only); omega), (fun x hx => by have e9 := hy9 x hx; omega)⟩, by omega⟩))
                exact ⟨⟨rfl, ⟨rfl, ⟨rfl, ⟨rfl, trivial⟩⟩⟩⟩, ⟨rfl, ⟨rfl, ⟨rfl, ⟨rfl, ⟨rfl, ⟨rfl, trivial⟩⟩⟩⟩⟩⟩, rfl⟩
          ·
            have h77' := of_decide_eq_false h77
            refine t_exit rfl ?_
            refine t_seq ?_
            refine t_region ?_
            refine r_op (o_loadAb rfl (n := 5) (by kernel_rfl) (by kernel_rfl) rfl rfl rfl) ?_
            refine r_op (o_storeb (n := 5) (by kernel_rfl) rfl rfl rfl rfl rfl rfl) ?_
            refine r_end ?_
            refine t_ret Tryz.func106 (.cells (n := 5) (by kernel_rfl) (by kernel_rfl) rfl rfl rfl .nil) rfl fun E S w u hI hd => ?_
            refine post_mkG (⟨bs, gs, false, 0, 0, i3, h3⟩) ?_ hI hd ?_ ⟨rfl, ⟨rfl, ⟨rfl, trivial⟩⟩⟩ rfl rfl <;> clear hI hd <;> (try clear ih0) <;> (try clear ih1)
            · (try dsimp only) <;> ((refine ⟨⟨by (try dsimp only); omega, by (try dsimp only); (omega), b4, (by exact g4), ?_, ?_⟩, by (omega), by omega⟩ <;> (try dsimp only) <;> (omega)))
            · rfl
      ·
        have g58' := of_decide_eq_false g58
        refine r_guard rfl rfl rfl (ncf g58) (fun _ => ?_)
        refine r_op (o_pickF rfl rfl g58 rfl) ?_
        refine r_end ?_
        refine t_cond rfl (ncf rfl) (fun _ => ?_)
        refine t_skip ?_
        refine t_seq ?_
        refine t_seq ?_
        refine t_region ?_
        refine r_op (o_move rfl rfl) ?_
        refine r_opX (o_callGM 0 8 9 (pv := some (v0)) (Go.Proofs.enters_of Tryz.func81 (by kernel_rfl) rfl) (c_spec_l1Below (code) (i3) (h3) (2) (by omega) (by omega) (by omega) (by omega) (by omega)) rfl rfl (.cur rfl (.cons rfl .nil)) rfl (fun ⟨_, _, _⟩ => rfl) (fun _ => rfl) (fun ⟨_, _, _⟩ => rfl) rfl rfl) ?_
        rintro ⟨⟨x111, i2112, h2113⟩, hq114⟩
        try dsimp only at hq114
        try dsimp only
        obtain ⟨q115, q116⟩ := hq114
        refine r_op (o_bin rfl rfl rfl rfl) ?_
        refine r_op (o_assign rfl rfl) ?_
        refine r_end ?_
        refine t_block ?_
        refine t_loopL (fun (kk, gs, i3, h3) => ⟨[(0, some (.c (.ptr 0 0))), (2, some (.c (.ptr 1 0))), (3, some (.c (.ptr 3 0))), (6, some (.c (.t none (.v (.int .i64 (kk))))))], [(0, some (.pbox (v0) [.t none (.sl 1 encU (code)), .t none (.v (.int .i64 (i3))), .t none (.v (.int .i64 (h3)))])), (1, some (.box [.t none (.v (.slice none 0 0)), .t none (.v (.slice none 0 0)), .t none (.v (.bool (false))), .t none (.v (.int .i64 (0))), .t none (.v (.int .i64 (0)))])), (3, some (.box [.own 5, .own 6, .t none (.v (.bool (false))), .t none (.v (.int .i64 (0))), .t none (.v (.int .i64 (0)))])), (5, some (.row none 40 true 2 (enS2 encI (enSl 1 encI)) (bs))), (6, some (.row none 40 true 2 (enS2 encI (enSl 1 encI)) (gs))), (7, some (.row none 3 true 1 encI (setI (varsL (bs)))))], 9⟩ : Int × Atoms × Int × Int → St) (fun (kk, gs, i3, h3) => (0 ≤ kk ∧ kk ≤ 2) ∧ (1 ≤ IntKind.i64.wrap (1 + (x111)) ∧ IntKind.i64.wrap (1 + (x111)) ≤ 2) ∧ ((gs.length : Int) + kk = IntKind.i64.wrap (1 + (x111))) ∧ (∀ a ∈ gs, atomL a) ∧ (0 ≤ i3 ∧ i3 ≤ code.length)) (fun (kk, gs, i3, h3) => kk.toNat) (IntKind.i64.wrap (1 + (x111)), [], (i2112), (h2113)) ⟨⟨rfl, ⟨rfl, ⟨rfl, ⟨rfl, trivial⟩⟩⟩⟩, ⟨rfl, ⟨rfl, ⟨rfl, ⟨rfl, ⟨rfl, ⟨rfl, trivial⟩⟩⟩⟩⟩⟩, rfl⟩ (by exact ⟨(by (try dsimp only); ((try simp only [IntKind.wrap_i64] at *); omega)), (by (try dsimp only); ((try simp only [IntKind.wrap_i64] at *); omega)), (by (try dsimp only); simp), (fun a ha => by simp at ha), (by (try dsimp only); omega)⟩) ?_
        rintro ⟨kk, gs, i3, h3⟩ hI ih1
        try dsimp only at hI ih1
        obtain ⟨g1, g2, g3, g4, g5⟩ := hI
        refine t_seq ?_
        refine t_seq ?_
        refine t_region ?_
        refine r_op (o_move rfl rfl) ?_
        refine r_op (o_bin rfl rfl rfl rfl) ?_
        refine r_end ?_
        refine t_cond rfl (fun h117 => ?_) (fun h117 => ?_)
        ·
          have h117' := of_decide_eq_true h117
          refine t_skip ?_
          refine t_seq ?_
          refine t_block ?_
          refine t_draw (fun i => !(Nat.beq i 4 || Nat.beq i 6 || Nat.beq i 8 || Nat.beq i 10)) (by kernel_rfl) ?_
          refine d_takeP 0 rfl rfl (by kernel_rfl) (by kernel_rfl) (by kernel_rfl) (pw_fieldb (off := 1) (by kernel_rfl) rfl) ?_
          refine d_takeP 2 rfl rfl (by kernel_rfl) (by kernel_rfl) (by kernel_rfl) (pw_move rfl) ?_
          refine d_take 3 rfl rfl (by kernel_rfl) (by kernel_rfl) (by kernel_rfl) (p_move rfl) ?_
          refine d_twoX 1 4 rfl rfl (by kernel_rfl) rfl rfl (osX (o_load1b rfl (by kernel_rfl) rfl rfl rfl)) (o_callGM 0 9 10 (pv := some (v0)) (Go.Proofs.enters_of Tryz.func81 (by kernel_rfl) rfl) (c_spec_l1Below (code) (i3) (h3) (3) (by omega) (by omega) (by omega) (by omega) (by omega)) rfl rfl (.cur rfl (.cons rfl .nil)) rfl (fun ⟨_, _, _⟩ => rfl) (fun _ => rfl) (fun ⟨_, _, _⟩ => rfl) rfl rfl) ?_ ?_
          ·
            rintro ⟨⟩
            refine d_onlyX 4 rfl (by kernel_rfl) rfl (o_callGM 0 9 10 (pv := some (v0)) (Go.Proofs.enters_of Tryz.func81 (by kernel_rfl) rfl) (c_spec_l1Below (code) (i3) (h3) (3) (by omega) (by omega) (by omega) (by omega) (by omega)) rfl rfl (.cur rfl (.cons rfl .nil)) rfl (fun ⟨_, _, _⟩ => rfl) (fun _ => rfl) (fun ⟨_, _, _⟩ => rfl) rfl rfl) ?_
            rintro ⟨⟨x124, i2125, h2126⟩, hq127⟩
            try dsimp only at hq127
            try dsimp only
            obtain ⟨q128, q129⟩ := hq127
            refine d_take 5 rfl rfl (by kernel_rfl) (by kernel_rfl) (by kernel_rfl) (p_bin rfl rfl rfl) ?_
            refine d_onlyX 6 rfl (by kernel_rfl) rfl (o_callGM 0 10 15 (pv := some (v0)) (Go.Proofs.enters_of Tryz.func160 (by kernel_rfl) rfl) (c_spec_l9Atom ((code)) ((i2125)) ((h2126)) (IntKind.i64.wrap (2 + (x124))) (4) (by omega) (by omega) (by omega) (by (simp only [IntKind.wrap_i64] at *; omega)) (by omega)) rfl rfl (.cur rfl (.cons rfl (.cons rfl .nil))) rfl (fun ⟨_, _, _⟩ => rfl) (fun _ => rfl) (fun ⟨_, _, _⟩ => rfl) rfl rfl) ?_
            rintro ⟨⟨ts130, i2131, h2132⟩, hq133⟩
            try dsimp only at hq133
            try dsimp only
            obtain ⟨q134, q135, q136⟩ := hq133
            have hy9 : ∀ x ∈ ts130, -3 ≤ x ∧ x ≤ 4 := (by assumption)
            refine d_only 7 rfl (by kernel_rfl) rfl (o_litS 15 (e := 40) (sz := 2) (zs := [.int .i64 (0), .slice none 0 0]) rfl rfl (by kernel_rfl) rfl rfl rfl rfl rfl) ?_
            refine d_only 8 rfl (by kernel_rfl) rfl (o_append 6 (e := 40) (sz := 2) (by' := 32) (((IntKind.i64.wrap (2 + (x124))), (ts130))) rfl (by kernel_rfl) rfl rfl rfl rfl rfl rfl (.cons .sc (.take (.own rfl) rfl .nil)) rfl (by omega) (by omega)) ?_
            refine d_take 9 rfl rfl (by kernel_rfl) (by kernel_rfl) (by kernel_rfl) (p_fieldb (off := 1) (by kernel_rfl) rfl) ?_
            refine d_only 10 rfl (by kernel_rfl) rfl (o_storeb (n := 1) (by kernel_rfl) rfl rfl rfl rfl rfl rfl) ?_
            refine d_end (by kernel_rfl) ?_
            refine t_endblock ?_
            refine t_region ?_
            refine r_op (o_move rfl rfl) ?_
            refine r_op (o_bin rfl rfl rfl rfl) ?_
            refine r_op (o_assign rfl rfl) ?_
            refine r_end ?_
            refine t_le ?_ (ih1 (IntKind.i64.wrap (kk - 1), gs ++ [((IntKind.i64.wrap (2 + (x124))), (ts130))], (i2131), (h2132)) (by (try dsimp only); ((try simp only [IntKind.wrap_i64] at *); omega)) (by (try dsimp only); exact ⟨(by ((try simp only [IntKind.wrap_i64] at *); omega)), g2, (by (simp only [List.length_append, List.length_singleton]); ((try simp only [IntKind.wrap_i64] at *); omega)), mem_snoc g4 ⟨(by ((try simp only [IntKind.wrap_i64] at *); omega)), (by (try dsimp only); omega), (fun x hx => by have e9 := hy9 x hx; omega)⟩, by omega⟩))
            exact ⟨⟨rfl, ⟨rfl, ⟨rfl, ⟨rfl, trivial⟩⟩⟩⟩, ⟨rfl, ⟨rfl, ⟨rfl, ⟨rfl, ⟨rfl, ⟨rfl, trivial⟩⟩⟩⟩⟩⟩, rfl⟩
          ·
            rintro ⟨⟨x118, i2119, h2120⟩, hq121⟩
            try dsimp only at hq121
            try dsimp only
            obtain ⟨q122, q123⟩ := hq121
            refine d_take 5 rfl rfl (by kernel_rfl) (by kernel_rfl) (by kernel_rfl) (p_bin rfl rfl rfl) ?_
            refine d_twoX 1 6 rfl rfl (by kernel_rfl) rfl rfl (osX (o_load1b rfl (by kernel_rfl) rfl rfl rfl)) (o_callGM 0 10 15 (pv := some (v0)) (Go.Proofs.enters_of Tryz.func160 (by kernel_rfl) rfl) (c_spec_l9Atom ((code)) ((i2119)) ((h2120)) (IntKind.i64.wrap (2 + (x118))) (4) (by omega) (by omega) (by omega) (by (simp only [IntKind.wrap_i64] at *; omega)) (by omega)) rfl rfl (.cur rfl (.cons rfl (.cons rfl .nil))) rfl (fun ⟨_, _, _⟩ => rfl) (fun _ => rfl) (fun ⟨_, _, _⟩ => rfl) rfl rfl) ?_ ?_
            ·
              rintro ⟨⟩
              refine d_onlyX 6 rfl (by kernel_rfl) rfl (o_callGM 0 10 15 (pv := some (v0)) (Go.Proofs.enters_of Tryz.func160 (by kernel_rfl) rfl) (c_spec_l9Atom ((code)) ((i2119)) ((h2120)) (IntKind.i64.wrap (2 + (x118))) (4) (by omega) (by omega) (by omega) (by (simp only [IntKind.wrap_i64] at *; omega)) (by omega)) rfl rfl (.cur rfl (.cons rfl (.cons rfl .nil))) rfl (fun ⟨_, _, _⟩ => rfl) (fun _ => rfl) (fun ⟨_, _, _⟩ => rfl) rfl rfl) ?_
              rintro ⟨⟨ts144, i2145, h2146⟩, hq147⟩
              try dsimp only at hq147
              try dsimp only
              obtain ⟨q148, q149, q150⟩ := hq147
              have hy9 : ∀ x ∈ ts144, -3 ≤ x ∧ x ≤ 4 := (by assumption)
              refine d_only 7 rfl (by kernel_rfl) rfl (o_litS 15 (e := 40) (sz := 2) (zs := [.int .i64 (0), .slice none 0 0]) rfl rfl (by kernel_rfl) rfl rfl rfl rfl rfl) ?_
              refine d_only 8 rfl (by kernel_rfl) rfl (o_append 6 (e := 40) (sz := 2) (by' := 32) (((IntKind.i64.wrap (2 + (x118))), (ts144))) rfl (by kernel_rfl) rfl rfl rfl rfl rfl rfl (.cons .sc (.take (.own rfl) rfl .nil)) rfl (by omega) (by omega)) ?_
              refine d_take 9 rfl rfl (by kernel_rfl) (by kernel_rfl) (by kernel_rfl) (p_fieldb (off := 1) (by kernel_rfl) rfl) ?_
              refine d_only 10 rfl (by kernel_rfl) rfl (o_storeb (n := 1) (by kernel_rfl) rfl rfl rfl rfl rfl rfl) ?_
              refine d_end (by kernel_rfl) ?_
              refine t_endblock ?_
              refine t_region ?_
              refine r_op (o_move rfl rfl) ?_
              refine r_op (o_bin rfl rfl rfl rfl) ?_
              refine r_op (o_assign rfl rfl) ?_
              refine r_end ?_
              refine t_le ?_ (ih1 (IntKind.i64.wrap (kk - 1), gs ++ [((IntKind.i64.wrap (2 + (x118))), (ts144))], (i2145), (h2146)) (by (try dsimp only); ((try simp only [IntKind.wrap_i64] at *); omega)) (by (try dsimp only); exact ⟨(by ((try simp only [IntKind.wrap_i64] at *); omega)), g2, (by (simp only [List.length_append, List.length_singleton]); ((try simp only [IntKind.wrap_i64] at *); omega)), mem_snoc g4 ⟨(by ((try simp only [IntKind.wrap_i64] at *); omega)), (by (try dsimp only); omega), (fun x hx => by have e9 := hy9 x hx; omega)⟩, by omega⟩))
              exact ⟨⟨rfl, ⟨rfl, ⟨rfl, ⟨rfl, trivial⟩⟩⟩⟩, ⟨rfl, ⟨rfl, ⟨rfl, ⟨rfl, ⟨rfl, ⟨rfl, trivial⟩⟩⟩⟩⟩⟩, rfl⟩
            ·
              rintro ⟨⟨ts137, i2138, h2139⟩, hq140⟩
              try dsimp only at hq140
              try dsimp only
              obtain ⟨q141, q142, q143⟩ := hq140
              have hy9 : ∀ x ∈ ts137, -3 ≤ x ∧ x ≤ 4 := (by assumption)
              refine d_take 1 rfl rfl (by kernel_rfl) (by kernel_rfl) (by kernel_rfl) (p_load1b (by kernel_rfl) rfl rfl rfl) ?_
              refine d_only 7 rfl (by kernel_rfl) rfl (o_litS 15 (e := 40) (sz := 2) (zs := [.int .i64 (0), .slice none 0 0]) rfl rfl (by kernel_rfl) rfl rfl rfl rfl rfl) ?_
              refine d_only 8 rfl (by kernel_rfl) rfl (o_append 6 (e := 40) (sz := 2) (by' := 32) (((IntKind.i64.wrap (2 + (x118))), (ts137))) rfl (by kernel_rfl) rfl rfl rfl rfl rfl rfl (.cons .sc (.take (.own rfl) rfl .nil)) rfl (by omega) (by omega)) ?_
              refine d_take 9 rfl rfl (by kernel_rfl) (by kernel_rfl) (by kernel_rfl) (p_fieldb (off := 1) (by kernel_rfl) rfl) ?_
              refine d_only 10 rfl (by kernel_rfl) rfl (o_storeb (n := 1) (by kernel_rfl) rfl rfl rfl rfl rfl rfl) ?_
              refine d_end (by kernel_rfl) ?_
              refine t_endblock ?_
              refine t_region ?_
              refine r_op (o_move rfl rfl) ?_
              refine r_op (o_bin rfl rfl rfl rfl) ?_
              refine r_op (o_assign rfl rfl) ?_
              refine r_end ?_
              refine t_le ?_ (ih1 (IntKind.i64.wrap (kk - 1), gs ++ [((IntKind.i64.wrap (2 + (x118))), (ts137))], (i2138), (h2139)) (by (try dsimp only); ((try simp only [IntKind.wrap_i64] at *); omega)) (by (try dsimp only); exact ⟨(by ((try simp only [IntKind.wrap_i64] at *); omega)), g2, (by (simp only [List.length_append, List.length_singleton]); ((try simp only [IntKind.wrap_i64] at *); omega)), mem_snoc g4 ⟨(by ((try simp only [IntKind.wrap_i64] at *); omega)), (by (try dsimp only); omega), (fun x hx => by have e9 := hy9 x hx; omega)⟩, by omega⟩))
              exact ⟨⟨rfl, ⟨rfl, ⟨rfl, ⟨rfl, trivial⟩⟩⟩⟩, ⟨rfl, ⟨rfl, ⟨rfl, ⟨rfl, ⟨rfl, ⟨rfl, trivial⟩⟩⟩⟩⟩⟩, rfl⟩
        ·
          have h117' := of_decide_eq_false h117
          refine t_exit rfl ?_
          refine t_seq ?_
          refine t_region ?_
          refine r_op (o_loadAb rfl (n := 5) (by kernel_rfl) (by kernel_rfl) rfl rfl rfl) ?_
          refine r_op (o_storeb (n := 5) (by kernel_rfl) rfl rfl rfl rfl rfl rfl) ?_
          refine r_end ?_
          refine t_ret Tryz.func106 (.cells (n := 5) (by kernel_rfl) (by kernel_rfl) rfl rfl rfl .nil) rfl fun E S w u hI hd => ?_
          refine post_mkG (⟨bs, gs, false, 0, 0, i3, h3⟩) ?_ hI hd ?_ ⟨rfl, ⟨rfl, ⟨rfl, trivial⟩⟩⟩ rfl rfl <;> clear hI hd <;> (try clear ih0) <;> (try clear ih1)
          · (try dsimp only) <;> ((refine ⟨⟨by (try dsimp only); omega, by (try dsimp only); (omega), b4, (by exact g4), ?_, ?_⟩, by (omega), by omega⟩ <;> (try dsimp only) <;> (omega)))
          · rfl
set_option maxHeartbeats 1000000 in
set_option maxRecDepth 10000 in
theorem c_spec_l1PickInt (code : List Int) (i h : Int) (l : List Int) (hc : code.length ≤ 1048576) (hi0 : 0 ≤ i) (hi1 : i ≤ code.length) (hl : 1 ≤ l.length) (hl2 : l.length ≤ 256) : MuG Tryz.prog 120 [.c (.ptr 0 0), .c (.t none (.sl 1 encI (l)))] [.t none (.sl 1 encU (code)), .t none (.v (.int .i64 (i))), .t none (.v (.int .i64 (h)))] (fun (⟨x, i2, h2⟩ : Int × Int × Int) => x ∈ l ∧ 0 ≤ i2 ∧ i2 ≤ code.length) (fun (⟨x, i2, h2⟩ : Int × Int × Int) => [.t none (.sl 1 encU (code)), .t none (.v (.int .i64 (i2))), .t none (.v (.int .i64 (h2)))]) (fun (⟨x, i2, h2⟩ : Int × Int × Int) => []) 1 (fun (⟨x, i2, h2⟩ : Int × Int × Int) => .c (.t none (.v (.int .i64 (x))))) := by
  refine mu_enterG Tryz.func120 rfl (Nat.le_of_ble_eq_true rfl) fun v0 w S M hM => ?_
  refine t_seq ?_
  refine t_region ?_
  refine r_op (o_assign rfl rfl) ?_
  refine r_end ?_
  refine t_seq ?_
  refine t_region ?_
  refine r_op (o_move rfl rfl) ?_
  refine r_op (o_move rfl rfl) ?_
  refine r_op (o_move rfl rfl) ?_
  refine r_op (o_len rfl rfl rfl) ?_
  refine r_opX (o_callGM 0 1 2 (pv := some (v0)) (Go.Proofs.enters_of Tryz.func81 (by kernel_rfl) rfl) (c_spec_l1Below (code) (i) (h) (((l).length : Int)) (by omega) (by omega) (by omega) (by omega) (by omega)) rfl rfl (.cur rfl (.cons rfl .nil)) rfl (fun ⟨_, _, _⟩ => rfl) (fun _ => rfl) (fun ⟨_, _, _⟩ => rfl) rfl rfl) ?_
  rintro ⟨⟨x1, i22, h23⟩, hq4⟩
  try dsimp only at hq4
  try dsimp only
  obtain ⟨q5, q6⟩ := hq4
  obtain ⟨z7, hz8, b9⟩ := at_get (xs := l) (n := (x1)) (by omega) (by omega)
  refine r_op (o_index rfl (by kernel_rfl) rfl rfl b9 hz8) ?_
  refine r_op (o_load1 rfl (by kernel_rfl) rfl rfl) ?_
  refine r_op (o_assign rfl rfl) ?_
  refine r_end ?_
  refine t_ret Tryz.func120 (.tmp rfl .nil) rfl fun E S w u hI hd => ?_
  refine post_mkG (⟨z7, (i22), (h23)⟩) ?_ hI hd ?_ ⟨rfl, trivial⟩ rfl rfl <;> clear hI hd
  · (try dsimp only) <;> (exact ⟨List.mem_of_getElem? (by assumption), by omega⟩)
  · rfl
set_option maxHeartbeats 1000000 in
set_option maxRecDepth 10000 in
theorem c_spec_l4Any (code : List Int) (i h : Int) (hc : code.length ≤ 1048576) (hi0 : 0 ≤ i) (hi1 : i ≤ code.length) : MuG Tryz.prog 161 [.c (.ptr 0 0)] [.t none (.sl 1 encU (code)), .t none (.v (.int .i64 (i))), .t none (.v (.int .i64 (h)))] (fun (⟨r, ts, i2, h2⟩ : Int × (List Int) × Int × Int) => factL (r, ts) ∧ 0 ≤ i2 ∧ i2 ≤ code.length) (fun (⟨r, ts, i2, h2⟩ : Int × (List Int) × Int × Int) => [.t none (.sl 1 encU (code)), .t none (.v (.int .i64 (i2))), .t none (.v (.int .i64 (h2)))]) (fun (⟨r, ts, i2, h2⟩ : Int × (List Int) × Int × Int) => [(7, some (.row none 3 true 1 encI (ts)))]) 8 (fun (⟨r, ts, i2, h2⟩ : Int × (List Int) × Int × Int) => .agg [.t none (.v (.int .i64 (r))), .own 7]) := by
  refine mu_enterG Tryz.func161 rfl (Nat.le_of_ble_eq_true rfl) fun v0 w S M hM => ?_
  refine t_seq ?_
  refine t_region ?_
  refine r_op (o_alloc 1 (zs := [.int .i64 (0), .slice none 0 0]) rfl rfl (by kernel_rfl) rfl) ?_
  refine r_end ?_
  refine t_seq ?_
  refine t_region ?_
  refine r_op (o_move rfl rfl) ?_
  refine r_op (o_move rfl rfl) ?_
  refine r_opX (o_callGM 0 2 3 (pv := some (v0)) (Go.Proofs.enters_of Tryz.func81 (by kernel_rfl) rfl) (c_spec_l1Below (code) (i) (h) (5) (by omega) (by omega) (by omega) (by omega) (by omega)) rfl rfl (.cur rfl (.cons rfl .nil)) rfl (fun ⟨_, _, _⟩ => rfl) (fun _ => rfl) (fun ⟨_, _, _⟩ => rfl) rfl rfl) ?_
  rintro ⟨⟨x1, i22, h23⟩, hq4⟩
  try dsimp only at hq4
  try dsimp only
  obtain ⟨q5, q6⟩ := hq4
  refine r_opX (o_callGM 0 3 8 (pv := some (v0)) (Go.Proofs.enters_of Tryz.func134 (by kernel_rfl) rfl) (c_spec_l4Fact ((code)) ((i22)) ((h23)) ((x1)) (4) (by omega) (by omega) (by omega) (by omega) (by omega)) rfl rfl (.cur rfl (.cons rfl (.cons rfl .nil))) rfl (fun ⟨_, _, _⟩ => rfl) (fun _ => rfl) (fun ⟨_, _, _⟩ => rfl) rfl rfl) ?_
  rintro ⟨⟨ts7, i28, h29⟩, hq10⟩
  try dsimp only at hq10
  try dsimp only
  obtain ⟨q11, q12, q13⟩ := hq10
  have t1 : 1 ≤ ts7.length ∧ ts7.length ≤ 2 := (by assumption); have t2 : ∀ x ∈ ts7, -256 ≤ x ∧ x ≤ 2 := (by assumption); have t3 : ∀ x ∈ ts7, -256 ≤ x ∧ x ≤ 256 := fun x hx => by have := t2 x hx; omega
  refine r_op (o_alloc 8 (zs := [.int .i64 (0), .slice none 0 0]) rfl rfl (by kernel_rfl) rfl) ?_
  refine r_op (o_storeb (n := 2) (by kernel_rfl) rfl rfl rfl rfl rfl rfl) ?_
  refine r_end ?_
  refine t_seq ?_
  refine t_seq ?_
  refine t_region ?_
  refine r_op (o_move rfl rfl) ?_
  refine r_opX (o_callGM 0 9 10 (pv := some (v0)) (Go.Proofs.enters_of Tryz.func81 (by kernel_rfl) rfl) (c_spec_l1Below (((code))) ((i28)) ((h29)) (10) (by omega) (by omega) (by omega) (by omega) (by omega)) rfl rfl (.cur rfl (.cons rfl .nil)) rfl (fun ⟨_, _, _⟩ => rfl) (fun _ => rfl) (fun ⟨_, _, _⟩ => rfl) rfl rfl) ?_
  rintro ⟨⟨x14, i215, h216⟩, hq17⟩
  try dsimp only at hq17
  try dsimp only
  obtain ⟨q18, q19⟩ := hq17
  refine r_end ?_
  refine t_block ?_
  refine t_seq ?_
  refine t_region ?_
  refine r_op (o_bin rfl rfl rfl rfl) ?_
  refine r_op (o_assign rfl rfl) ?_
  refine r_end ?_
  refine t_cond rfl (fun h20 => ?_) (fun h20 => ?_)
  ·
    have h20' := of_decide_eq_true h20
    refine t_region ?_
    refine r_op (o_move rfl rfl) ?_
    refine r_opX (o_callGM 0 10 11 (pv := some (v0)) (Go.Proofs.enters_of Tryz.func81 (by kernel_rfl) rfl) (c_spec_l1Below ((((code)))) ((i215)) ((h216)) (7) (by omega) (by omega) (by omega) (by omega) (by omega)) rfl rfl (.cur rfl (.cons rfl .nil)) rfl (fun ⟨_, _, _⟩ => rfl) (fun _ => rfl) (fun ⟨_, _, _⟩ => rfl) rfl rfl) ?_
    rintro ⟨⟨x21, i222, h223⟩, hq24⟩
    try dsimp only at hq24
    try dsimp only
    obtain ⟨q25, q26⟩ := hq24
    refine r_op (o_bin rfl rfl rfl rfl) ?_
    refine r_op (o_fieldb rfl (off := 0) (by kernel_rfl) rfl) ?_
    refine r_op (o_storeb (n := 1) (by kernel_rfl) rfl rfl rfl rfl rfl rfl) ?_
    refine r_end ?_
    refine t_endblock ?_
    refine t_seq ?_
    refine t_region ?_
    refine r_op (o_loadAb rfl (n := 2) (by kernel_rfl) (by kernel_rfl) rfl rfl rfl) ?_
    refine r_op (o_storeb (n := 2) (by kernel_rfl) rfl rfl rfl rfl rfl rfl) ?_
    refine r_end ?_
    refine t_ret Tryz.func161 (.cells (n := 2) (by kernel_rfl) (by kernel_rfl) rfl rfl rfl .nil) rfl fun E S w u hI hd => ?_
    refine post_mkG (⟨IntKind.i64.wrap ((x21) - 1), (ts7), (i222), (h223)⟩) ?_ hI hd ?_ ⟨rfl, ⟨rfl, trivial⟩⟩ rfl rfl <;> clear hI hd
    · (try dsimp only) <;> ((exact ⟨⟨by (try dsimp only); (try simp only [IntKind.wrap_i64] at *); omega, by (try dsimp only); omega, t3⟩, by omega⟩))
    · rfl
  ·
    have h20' := of_decide_eq_false h20
    refine t_seq ?_
    refine t_region ?_
    refine r_op (o_bin rfl rfl rfl rfl) ?_
    refine r_op (o_assign rfl rfl) ?_
    refine r_end ?_
    refine t_cond rfl (fun h27 => ?_) (fun h27 => ?_)
    ·
      have h27' := of_decide_eq_true h27
      refine t_region ?_
      refine r_op (o_fieldb rfl (off := 1) (by kernel_rfl) rfl) ?_
      refine r_op (o_load1b rfl (by kernel_rfl) rfl rfl rfl) ?_
      refine r_op (o_litS 10 (e := 3) (sz := 1) (zs := [.int .i64 (0)]) rfl rfl (by kernel_rfl) rfl rfl rfl rfl rfl) ?_
      refine r_op (o_append 7 (e := 3) (sz := 1) (by' := 8) (1) rfl (by kernel_rfl) rfl rfl rfl rfl rfl rfl (.cons .sc .nil) rfl (by omega) (by omega)) ?_
      refine r_op (o_fieldb rfl (off := 1) (by kernel_rfl) rfl) ?_
      refine r_op (o_storeb (n := 1) (by kernel_rfl) rfl rfl rfl rfl rfl rfl) ?_
      refine r_end ?_
      refine t_endblock ?_
      refine t_seq ?_
      refine t_region ?_
      refine r_op (o_loadAb rfl (n := 2) (by kernel_rfl) (by kernel_rfl) rfl rfl rfl) ?_
      refine r_op (o_storeb (n := 2) (by kernel_rfl) rfl rfl rfl rfl rfl rfl) ?_
      refine r_end ?_
      refine t_ret Tryz.func161 (.cells (n := 2) (by kernel_rfl) (by kernel_rfl) rfl rfl rfl .nil) rfl fun E S w u hI hd => ?_
      refine post_mkG (⟨((x1)), (ts7) ++ [1], (i215), (h216)⟩) ?_ hI hd ?_ ⟨rfl, ⟨rfl, trivial⟩⟩ rfl rfl <;> clear hI hd
      · (try dsimp only) <;> ((exact ⟨⟨by (try dsimp only); omega, by (simp only [List.length_append, List.length_singleton]; omega), mem_snoc t3 (by omega)⟩, by omega⟩))
      · rfl
    ·
      have h27' := of_decide_eq_false h27
      refine t_seq ?_
      refine t_region ?_
      refine r_op (o_bin rfl rfl rfl rfl) ?_
      refine r_op (o_assign rfl rfl) ?_
      refine r_end ?_
      refine t_cond rfl (fun h28 => ?_) (fun h28 => ?_)
      ·
        have h28' := of_decide_eq_true h28
        refine t_draw (fun i => !(Nat.beq i 4 || Nat.beq i 6)) (by kernel_rfl) ?_
        refine d_takeP 0 rfl rfl (by kernel_rfl) (by kernel_rfl) (by kernel_rfl) (pw_fieldb (off := 1) (by kernel_rfl) rfl) ?_
        refine d_take 2 rfl rfl (by kernel_rfl) (by kernel_rfl) (by kernel_rfl) (p_move rfl) ?_
        refine d_two 1 3 rfl rfl (by kernel_rfl) rfl rfl (o_load1b rfl (by kernel_rfl) rfl rfl rfl) (o_litS 10 (e := 3) (sz := 1) (zs := [.int .i64 (0)]) rfl rfl (by kernel_rfl) rfl rfl rfl rfl rfl) ?_ ?_
        ·
          refine d_only 3 rfl (by kernel_rfl) rfl (o_litS 10 (e := 3) (sz := 1) (zs := [.int .i64 (0)]) rfl rfl (by kernel_rfl) rfl rfl rfl rfl rfl) ?_
          refine d_freezeB 10 (enc := encI) ([10, -41, 9]) rfl (.cons (.cons (.cons .nil))) (frz_cur (i := 10) hM rfl rfl rfl) ?_
          refine d_onlyX 4 rfl (by kernel_rfl) rfl (o_callGM 0 11 12 (pv := some (v0)) (Go.Proofs.enters_of Tryz.func120 (by kernel_rfl) rfl) (c_spec_l1PickInt ((((code)))) ((i215)) ((h216)) ([10, -41, 9]) (by omega) (by omega) (by omega) (by (simp only [List.length_cons, List.length_nil]; omega)) (by (simp only [List.length_cons, List.length_nil]; omega))) rfl rfl (.cur rfl (.cons rfl .nil)) rfl (fun ⟨_, _, _⟩ => rfl) (fun _ => rfl) (fun ⟨_, _, _⟩ => rfl) rfl rfl) ?_
          rintro ⟨⟨x29, i230, h231⟩, hq32⟩
          try dsimp only at hq32
          try dsimp only
          obtain ⟨q33, q34⟩ := hq32
          obtain ⟨z35, hz36, b37⟩ := at_get (xs := (ts7)) (n := 0) (by omega) (by omega)
          refine d_take 5 rfl rfl (by kernel_rfl) (by kernel_rfl) (by kernel_rfl) (p_indexo (by kernel_rfl) rfl rfl rfl b37 (at_lt b37 hz36)) ?_
          refine d_only 6 rfl (by kernel_rfl) rfl (o_storeo ((x29)) (n := 1) (by kernel_rfl) rfl rfl hz36 rfl rfl rfl rfl (.cons .sc .nil) rfl (fun j h1 h2 => by simp at h1 h2; omega)) ?_
          refine d_end (by kernel_rfl) ?_
          refine t_endblock ?_
          refine t_seq ?_
          refine t_region ?_
          refine r_op (o_loadAb rfl (n := 2) (by kernel_rfl) (by kernel_rfl) rfl rfl rfl) ?_
          refine r_op (o_storeb (n := 2) (by kernel_rfl) rfl rfl rfl rfl rfl rfl) ?_
          refine r_end ?_
          refine t_ret Tryz.func161 (.cells (n := 2) (by kernel_rfl) (by kernel_rfl) rfl rfl rfl .nil) rfl fun E S w u hI hd => ?_
          refine post_mkG (⟨((x1)), ((ts7)).set ((0 : Int)).toNat ((x29)), (i230), (h231)⟩) ?_ hI hd ?_ ⟨rfl, ⟨rfl, trivial⟩⟩ rfl rfl <;> clear hI hd
          · (try dsimp only) <;> ((exact ⟨⟨by (try dsimp only); omega, by (simp only [List.length_set]; omega), mem_set t3 (by have e9 := pick10 (by assumption); omega)⟩, by omega⟩))
          · rfl
        ·
          refine d_freezeB 10 (enc := encI) ([10, -41, 9]) rfl (.cons (.cons (.cons .nil))) (frz_cur (i := 10) hM rfl rfl rfl) ?_
          refine d_twoX 1 4 rfl rfl (by kernel_rfl) rfl rfl (osX (o_load1b rfl (by kernel_rfl) rfl rfl rfl)) (o_callGM 0 11 12 (pv := some (v0)) (Go.Proofs.enters_of Tryz.func120 (by kernel_rfl) rfl) (c_spec_l1PickInt ((((code)))) ((i215)) ((h216)) ([10, -41, 9]) (by omega) (by omega) (by omega) (by (simp only [List.length_cons, List.length_nil]; omega)) (by (simp only [List.length_cons, List.length_nil]; omega))) rfl rfl (.cur rfl (.cons rfl .nil)) rfl (fun ⟨_, _, _⟩ => rfl) (fun _ => rfl) (fun ⟨_, _, _⟩ => rfl) rfl rfl) ?_ ?_
          ·
            rintro ⟨⟩
            refine d_onlyX 4 rfl (by kernel_rfl) rfl (o_callGM 0 11 12 (pv := some (v0)) (Go.Proofs.enters_of Tryz.func120 (by kernel_rfl) rfl) (c_spec_l1PickInt ((((code)))) ((i215)) ((h216)) ([10, -41, 9]) (by omega) (by omega) (by omega) (by (simp only [List.length_cons, List.length_nil]; omega)) (by (simp only [List.length_cons, List.length_nil]; omega))) rfl rfl (.cur rfl (.cons rfl .nil)) rfl (fun ⟨_, _, _⟩ => rfl) (fun _ => rfl) (fun ⟨_, _, _⟩ => rfl) rfl rfl) ?_
            rintro ⟨⟨x44, i245, h246⟩, hq47⟩
            try dsimp only at hq47
            try dsimp only
            obtain ⟨q48, q49⟩ := hq47
            obtain ⟨z50, hz51, b52⟩ := at_get (xs := (ts7)) (n := 0) (by omega) (by omega)
            refine d_take 5 rfl rfl (by kernel_rfl) (by kernel_rfl) (by kernel_rfl) (p_indexo (by kernel_rfl) rfl rfl rfl b52 (at_lt b52 hz51)) ?_
            refine d_only 6 rfl (by kernel_rfl) rfl (o_storeo ((x44)) (n := 1) (by kernel_rfl) rfl rfl hz51 rfl rfl rfl rfl (.cons .sc .nil) rfl (fun j h1 h2 => by simp at h1 h2; omega)) ?_
            refine d_end (by kernel_rfl) ?_
            refine t_endblock ?_
            refine t_seq ?_
            refine t_region ?_
            refine r_op (o_loadAb rfl (n := 2) (by kernel_rfl) (by kernel_rfl) rfl rfl rfl) ?_
            refine r_op (o_storeb (n := 2) (by kernel_rfl) rfl rfl rfl rfl rfl rfl) ?_
            refine r_end ?_
            refine t_ret Tryz.func161 (.cells (n := 2) (by kernel_rfl) (by kernel_rfl) rfl rfl rfl .nil) rfl fun E S w u hI hd => ?_
            refine post_mkG (⟨((x1)), ((ts7)).set ((0 : Int)).toNat ((x44)), (i245), (h246)⟩) ?_ hI hd ?_ ⟨rfl, ⟨rfl, trivial⟩⟩ rfl rfl <;> clear hI hd
            · (try dsimp only) <;> ((exact ⟨⟨by (try dsimp only); omega, by (simp only [List.length_set]; omega), mem_set t3 (by have e9 := pick10 (by assumption); omega)⟩, by omega⟩))
            · rfl
          ·
            rintro ⟨⟨x38, i239, h240⟩, hq41⟩
            try dsimp only at hq41
            try dsimp only
            obtain ⟨q42, q43⟩ := hq41
            refine d_take 1 rfl rfl (by kernel_rfl) (by kernel_rfl) (by kernel_rfl) (p_load1b (by kernel_rfl) rfl rfl rfl) ?_
            obtain ⟨z53, hz54, b55⟩ := at_get (xs := (ts7)) (n := 0) (by omega) (by omega)
            refine d_take 5 rfl rfl (by kernel_rfl) (by kernel_rfl) (by kernel_rfl) (p_indexo (by kernel_rfl) rfl rfl rfl b55 (at_lt b55 hz54)) ?_
            refine d_only 6 rfl (by kernel_rfl) rfl (o_storeo ((x38)) (n := 1) (by kernel_rfl) rfl rfl hz54 rfl rfl rfl rfl (.cons .sc .nil) rfl (fun j h1 h2 => by simp at h1 h2; omega)) ?_
            refine d_end (by kernel_rfl) ?_
            refine t_endblock ?_
            refine t_seq ?_
            refine t_region ?_
            refine r_op (o_loadAb rfl (n := 2) (by kernel_rfl) (by kernel_rfl) rfl rfl rfl) ?_
            refine r_op (o_storeb (n := 2) (by kernel_rfl) rfl rfl rfl rfl rfl rfl) ?_
            refine r_end ?_
            refine t_ret Tryz.func161 (.cells (n := 2) (by kernel_rfl) (by kernel_rfl) rfl rfl rfl .nil) rfl fun E S w u hI hd => ?_
            refine post_mkG (⟨((x1)), ((ts7)).set ((0 : Int)).toNat ((x38)), (i239), (h240)⟩) ?_ hI hd ?_ ⟨rfl, ⟨rfl, trivial⟩⟩ rfl rfl <;> clear hI hd
            · (try dsimp only) <;> ((exact ⟨⟨by (try dsimp only); omega, by (simp only [List.length_set]; omega), mem_set t3 (by have e9 := pick10 (by assumption); omega)⟩, by omega⟩))
            · rfl
      ·
        have h28' := of_decide_eq_false h28
        refine t_skip ?_
        refine t_endblock ?_
        refine t_seq ?_
        refine t_region ?_
        refine r_op (o_loadAb rfl (n := 2) (by kernel_rfl) (by kernel_rfl) rfl rfl rfl) ?_
        refine r_op (o_storeb (n := 2) (by kernel_rfl) rfl rfl rfl rfl rfl rfl) ?_
        refine r_end ?_
        refine t_ret Tryz.func161 (.cells (n := 2) (by kernel_rfl) (by kernel_rfl) rfl rfl rfl .nil) rfl fun E S w u hI hd => ?_
        refine post_mkG (⟨((x1)), (ts7), (i215), (h216)⟩) ?_ hI hd ?_ ⟨rfl, ⟨rfl, trivial⟩⟩ rfl rfl <;> clear hI hd
        · (try dsimp only) <;> ((exact ⟨⟨by (try dsimp only); (try simp only [IntKind.wrap_i64] at *); omega, by (try dsimp only); omega, t3⟩, by omega⟩))
        · rfl
set_option maxHeartbeats 1000000 in
set_option maxRecDepth 10000 in
theorem c_spec_l1Pick (code : List Int) (i h : Int) (l : List (List UInt8)) (hc : code.length ≤ 1048576) (hi0 : 0 ≤ i) (hi1 : i ≤ code.length) (hl : 1 ≤ l.length) (hl2 : l.length ≤ 256) : MuG Tryz.prog 182 [.c (.ptr 0 0), .c (.t none (.sl 1 encS (l)))] [.t none (.sl 1 encU (code)), .t none (.v (.int .i64 (i))), .t none (.v (.int .i64 (h)))] (fun (⟨x, i2, h2⟩ : (List UInt8) × Int × Int) => x ∈ l ∧ 0 ≤ i2 ∧ i2 ≤ code.length) (fun (⟨x, i2, h2⟩ : (List UInt8) × Int × Int) => [.t none (.sl 1 encU (code)), .t none (.v (.int .i64 (i2))), .t none (.v (.int .i64 (h2)))]) (fun (⟨x, i2, h2⟩ : (List UInt8) × Int × Int) => []) 1 (fun (⟨x, i2, h2⟩ : (List UInt8) × Int × Int) => .c (.t none (.v (.string (mkS (x)))))) := by
  refine mu_enterG Tryz.func182 rfl (Nat.le_of_ble_eq_true rfl) fun v0 w S M hM => ?_
  refine t_seq ?_
  refine t_region ?_
  refine r_op (o_assign rfl rfl) ?_
  refine r_end ?_
  refine t_seq ?_
  refine t_region ?_
  refine r_op (o_move rfl rfl) ?_
  refine r_op (o_move rfl rfl) ?_
  refine r_op (o_move rfl rfl) ?_
  refine r_op (o_len rfl rfl rfl) ?_
  refine r_opX (o_callGM 0 1 2 (pv := some (v0)) (Go.Proofs.enters_of Tryz.func81 (by kernel_rfl) rfl) (c_spec_l1Below (code) (i) (h) (((l).length : Int)) (by omega) (by omega) (by omega) (by omega) (by omega)) rfl rfl (.cur rfl (.cons rfl .nil)) rfl (fun ⟨_, _, _⟩ => rfl) (fun _ => rfl) (fun ⟨_, _, _⟩ => rfl) rfl rfl) ?_
  rintro ⟨⟨x1, i22, h23⟩, hq4⟩
  try dsimp only at hq4
  try dsimp only
  obtain ⟨q5, q6⟩ := hq4
  obtain ⟨z7, hz8, b9⟩ := at_get (xs := l) (n := (x1)) (by omega) (by omega)
  refine r_op (o_index rfl (by kernel_rfl) rfl rfl b9 hz8) ?_
  refine r_op (o_load1 rfl (by kernel_rfl) rfl rfl) ?_
  refine r_op (o_assign rfl rfl) ?_
  refine r_end ?_
  refine t_ret Tryz.func182 (.tmp rfl .nil) rfl fun E S w u hI hd => ?_
  refine post_mkG (⟨z7, (i22), (h23)⟩) ?_ hI hd ?_ ⟨rfl, trivial⟩ rfl rfl <;> clear hI hd
  · (try dsimp only) <;> (exact ⟨List.mem_of_getElem? (by assumption), by omega⟩)
  · rfl
set_option maxHeartbeats 1000000 in
set_option maxRecDepth 10000 in
theorem c_spec_l3One (code : List Int) (i h : Int) (hc : code.length ≤ 1048576) (hi0 : 0 ≤ i) (hi1 : i ≤ code.length) : MuG Tryz.prog 162 [.c (.ptr 0 0)] [.t none (.sl 1 encU (code)), .t none (.v (.int .i64 (i))), .t none (.v (.int .i64 (h)))] (fun (⟨n, ar, b, i2, h2⟩ : (List UInt8) × Int × Bool × Int × Int) => (n.length ≤ 2 ∧ -1 ≤ ar ∧ ar ≤ 4) ∧ 0 ≤ i2 ∧ i2 ≤ code.length) (fun (⟨n, ar, b, i2, h2⟩ : (List UInt8) × Int × Bool × Int × Int) => [.t none (.sl 1 encU (code)), .t none (.v (.int .i64 (i2))), .t none (.v (.int .i64 (h2)))]) (fun (⟨n, ar, b, i2, h2⟩ : (List UInt8) × Int × Bool × Int × Int) => []) 1 (fun (⟨n, ar, b, i2, h2⟩ : (List UInt8) × Int × Bool × Int × Int) => .agg [.t none (.v (.string (mkS (n)))), .t none (.v (.int .i64 (ar))), .t none (.v (.bool (b)))]) := by
  refine mu_enterG Tryz.func162 rfl (Nat.le_of_ble_eq_true rfl) fun v0 w S M hM => ?_
  refine t_seq ?_
  refine t_region ?_
  refine r_op (o_alloc 1 (zs := [.string (mkS ([])), .int .i64 (0), .bool (false)]) rfl rfl (by kernel_rfl) rfl) ?_
  refine r_end ?_
  refine t_seq ?_
  refine t_region ?_
  refine r_op (o_move rfl rfl) ?_
  refine r_op (o_litS 2 (e := 9) (sz := 1) (zs := [.string (mkS ([]))]) rfl rfl (by kernel_rfl) rfl rfl rfl rfl rfl) ?_
  refine r_freezeB 2 (enc := encS) ([([97] : List UInt8), ([122] : List UInt8), ([] : List UInt8), ([65] : List UInt8), ([97, 98] : List UInt8), ([112] : List UInt8)]) rfl (.cons (.cons (.cons (.cons (.cons (.cons .nil)))))) (frz_cur (i := 2) hM rfl rfl rfl) ?_
  refine r_opX (o_callGM 0 3 4 (pv := some (v0)) (Go.Proofs.enters_of Tryz.func182 (by kernel_rfl) rfl) (c_spec_l1Pick (code) (i) (h) ([([97] : List UInt8), ([122] : List UInt8), ([] : List UInt8), ([65] : List UInt8), ([97, 98] : List UInt8), ([112] : List UInt8)]) (by omega) (by omega) (by omega) (by (simp only [List.length_cons, List.length_nil]; omega)) (by (simp only [List.length_cons, List.length_nil]; omega))) rfl rfl (.cur rfl (.cons rfl .nil)) rfl (fun ⟨_, _, _⟩ => rfl) (fun _ => rfl) (fun ⟨_, _, _⟩ => rfl) rfl rfl) ?_
  rintro ⟨⟨x1, i22, h23⟩, hq4⟩
  try dsimp only at hq4
  try dsimp only
  obtain ⟨q5, q6⟩ := hq4
  refine r_op (o_move rfl rfl) ?_
  refine r_opX (o_callGM 0 4 5 (pv := some (v0)) (Go.Proofs.enters_of Tryz.func81 (by kernel_rfl) rfl) (c_spec_l1Below ((code)) ((i22)) ((h23)) (6) (by omega) (by omega) (by omega) (by omega) (by omega)) rfl rfl (.cur rfl (.cons rfl .nil)) rfl (fun ⟨_, _, _⟩ => rfl) (fun _ => rfl) (fun ⟨_, _, _⟩ => rfl) rfl rfl) ?_
  rintro ⟨⟨x7, i28, h29⟩, hq10⟩
  try dsimp only at hq10
  try dsimp only
  obtain ⟨q11, q12⟩ := hq10
  refine r_op (o_bin rfl rfl rfl rfl) ?_
  refine r_op (o_move rfl rfl) ?_
  refine r_opX (o_callGM 0 5 6 (pv := some (v0)) (Go.Proofs.enters_of Tryz.func61 (by kernel_rfl) rfl) (c_spec_l1Once (((code))) ((i28)) ((h29)) (2) (by omega) (by omega) (by omega) (by omega) (by omega)) rfl rfl (.cur rfl (.cons rfl .nil)) rfl (fun ⟨_, _, _⟩ => rfl) (fun _ => rfl) (fun ⟨_, _, _⟩ => rfl) rfl rfl) ?_
  rintro ⟨⟨b13, i214, h215⟩, hq16⟩
  try dsimp only at hq16
  try dsimp only
  refine r_op (o_build rfl (pl := [(0, 1), (1, 1), (2, 1)]) (zs := [.string (mkS ([])), .int .i64 (0), .bool (false)]) (by kernel_rfl) (by kernel_rfl) rfl rfl rfl) ?_
  refine r_op (o_storeb (n := 3) (by kernel_rfl) rfl rfl rfl rfl rfl rfl) ?_
  refine r_end ?_
  refine t_ret Tryz.func162 (.cells (n := 3) (by kernel_rfl) (by kernel_rfl) rfl rfl rfl .nil) rfl fun E S w u hI hd => ?_
  refine post_mkG (⟨(x1), IntKind.i64.wrap ((x7) - 1), (b13), (i214), (h215)⟩) ?_ hI hd ?_ ⟨rfl, trivial⟩ rfl rfl <;> clear hI hd
  · (try dsimp only) <;> ((have e8 := (by decide : ∀ x ∈ [([97] : List UInt8), ([122] : List UInt8), ([] : List UInt8), ([65] : List UInt8), ([97, 98] : List UInt8), ([112] : List UInt8)], x.length ≤ 2) _ (by assumption)); (simp only [IntKind.wrap_i64] at *; omega))
  · rfl
set_option maxHeartbeats 1000000 in
set_option maxRecDepth 10000 in
theorem c_spec_l5Any (code : List Int) (i h : Int) (hc : code.length ≤ 1048576) (hi0 : 0 ≤ i) (hi1 : i ≤ code.length) : MuG Tryz.prog 107 [.c (.ptr 0 0)] [.t none (.sl 1 encU (code)), .t none (.v (.int .i64 (i))), .t none (.v (.int .i64 (h)))] (fun (⟨rs, fs, i2, h2⟩ : Rels × Atoms × Int × Int) => instL rs fs ∧ 0 ≤ i2 ∧ i2 ≤ code.length) (fun (⟨rs, fs, i2, h2⟩ : Rels × Atoms × Int × Int) => [.t none (.sl 1 encU (code)), .t none (.v (.int .i64 (i2))), .t none (.v (.int .i64 (h2)))]) (fun (⟨rs, fs, i2, h2⟩ : Rels × Atoms × Int × Int) => []) 1 (fun (⟨rs, fs, i2, h2⟩ : Rels × Atoms × Int × Int) => .agg [.t none (.sl 3 (enS3 encS encI encB) (rs)), .t none (.sl 2 (enS2 encI (enSl 1 encI)) (fs))]) := by
  refine mu_enterG Tryz.func107 rfl (Nat.le_of_ble_eq_true rfl) fun v0 w S M hM => ?_
  refine t_seq ?_
  refine t_region ?_
  refine r_op (o_alloc 1 (zs := [.slice none 0 0, .slice none 0 0]) rfl rfl (by kernel_rfl) rfl) ?_
  refine r_end ?_
  refine t_seq ?_
  refine t_region ?_
  refine r_op (o_move rfl rfl) ?_
  refine r_opX (o_callGM 0 2 7 (pv := some (v0)) (Go.Proofs.enters_of Tryz.func158 (by kernel_rfl) rfl) (c_spec_l5Target (code) (i) (h) (5) (3) (by omega) (by omega) (by omega) (by omega) (by omega)) rfl rfl (.cur rfl (.cons rfl (.cons rfl .nil))) rfl (fun ⟨_, _, _⟩ => rfl) (fun _ => rfl) (fun ⟨_, _, _⟩ => rfl) rfl rfl) ?_
  rintro ⟨⟨fs1, i22, h23⟩, hq4⟩
  try dsimp only at hq4
  try dsimp only
  obtain ⟨q5, q6, q7⟩ := hq4
  refine r_op (o_alloc 7 (zs := [.slice none 0 0, .slice none 0 0]) rfl rfl (by kernel_rfl) rfl) ?_
  refine r_op (o_storeb (n := 2) (by kernel_rfl) rfl rfl rfl rfl rfl rfl) ?_
  refine r_end ?_
  refine t_seq ?_
  refine t_seq ?_
  refine t_region ?_
  refine r_op (o_move rfl rfl) ?_
  refine r_opX (o_callGM 0 8 9 (pv := some (v0)) (Go.Proofs.enters_of Tryz.func61 (by kernel_rfl) rfl) (c_spec_l1Once ((code)) ((i22)) ((h23)) (2) (by omega) (by omega) (by omega) (by omega) (by omega)) rfl rfl (.cur rfl (.cons rfl .nil)) rfl (fun ⟨_, _, _⟩ => rfl) (fun _ => rfl) (fun ⟨_, _, _⟩ => rfl) rfl rfl) ?_
  rintro ⟨⟨b8, i29, h210⟩, hq11⟩
  try dsimp only at hq11
  try dsimp only
  refine r_end ?_
  refine t_cond rfl (fun h13 => ?_) (fun h13 => ?_)
  ·
    have h13' := h13
    refine t_seq ?_
    refine t_region ?_
    refine r_op (o_move rfl rfl) ?_
    refine r_opX (o_callGM 0 9 14 (pv := some (v0)) (Go.Proofs.enters_of Tryz.func78 (by kernel_rfl) rfl) (c_spec_l5Source (((code))) ((i29)) ((h210)) (3) (by omega) (by omega) (by omega) (by omega)) rfl rfl (.cur rfl (.cons rfl .nil)) rfl (fun ⟨_, _, _⟩ => rfl) (fun _ => rfl) (fun ⟨_, _, _⟩ => rfl) rfl rfl) ?_
    rintro ⟨⟨fs14, i215, h216⟩, hq17⟩
    try dsimp only at hq17
    try dsimp only
    obtain ⟨q18, q19, q20⟩ := hq17
    have b4f : ∀ a ∈ fs14, factL a := (by assumption)
    refine r_op (o_alloc 14 (zs := [.slice none 0 0, .slice none 0 0]) rfl rfl (by kernel_rfl) rfl) ?_
    refine r_op (o_storeb (n := 2) (by kernel_rfl) rfl rfl rfl rfl rfl rfl) ?_
    refine r_end ?_
    refine t_seq ?_
    refine t_seq ?_
    refine t_region ?_
    refine r_op (o_assign rfl rfl) ?_
    refine r_end ?_
    refine t_block ?_
    refine gt_freeze 5 rfl (frz_cur (i := 5) hM rfl rfl rfl) ?_
    refine gt_freeze 6 rfl (frz_cur (i := 6) hM rfl rfl rfl) ?_
    refine gt_freeze 12 rfl (frz_cur (i := 12) hM rfl rfl rfl) ?_
    refine gt_freeze 13 rfl (frz_cur (i := 13) hM rfl rfl rfl) ?_
    refine t_loopL (fun (m, xs) => ⟨[(0, some (.c (.ptr 0 0))), (2, some (.c (.ptr 1 0))), (3, some (.c (.ptr 7 0))), (4, some (.c (.ptr 14 0))), (5, some (.c (.t none (.v (.int .i64 ((m : Int)))))))], [(0, some (.pbox (v0) [.t none (.sl 1 encU ((((code))))), .t none (.v (.int .i64 ((i215)))), .t none (.v (.int .i64 ((h216))))])), (1, some (.box [.t none (.v (.slice none 0 0)), .t none (.v (.slice none 0 0))])), (7, some (.box [.t none (.sl 3 (enS3 encS encI encB) (sigs5)), .t none (.sl 2 (enS2 encI (enSl 1 encI)) (xs))])), (14, some (.box [.t none (.sl 3 (enS3 encS encI encB) (sigs5)), .t none (.sl 2 (enS2 encI (enSl 1 encI)) ((fs14)))]))], 15⟩ : Nat × Atoms → St) (fun (m, xs) => m ≤ fs14.length ∧ xs.length ≤ 5 + m ∧ (∀ a ∈ xs, factL a)) (fun (m, xs) => fs14.length - m) (0, (fs1)) ⟨⟨rfl, ⟨rfl, ⟨rfl, ⟨rfl, ⟨rfl, trivial⟩⟩⟩⟩⟩, ⟨rfl, ⟨rfl, ⟨rfl, ⟨rfl, trivial⟩⟩⟩⟩, rfl⟩ (by exact ⟨Nat.zero_le _, by (try dsimp only); omega, by assumption⟩) ?_
    rintro ⟨m, xs⟩ hI ih0
    try dsimp only at hI ih0
    obtain ⟨b1, b2, b4⟩ := hI
    refine t_seq ?_
    refine t_seq ?_
    refine t_region ?_
    refine r_op (o_move rfl rfl) ?_
    refine r_op (o_fieldb rfl (off := 1) (by kernel_rfl) rfl) ?_
    refine r_op (o_load1b rfl (by kernel_rfl) rfl rfl rfl) ?_
    refine r_op (o_len rfl rfl rfl) ?_
    refine r_op (o_bin rfl rfl rfl rfl) ?_
    refine r_end ?_
    refine t_cond rfl (fun h21 => ?_) (fun h21 => ?_)
    ·
      have h21' := of_decide_eq_true h21
      refine t_skip ?_
      refine t_seq ?_
      refine t_block ?_
      refine t_draw (fun i => !(Nat.beq i 7)) (by kernel_rfl) ?_
      refine d_take 0 rfl rfl (by kernel_rfl) (by kernel_rfl) (by kernel_rfl) (p_loadAb (n := 2) (by kernel_rfl) (by kernel_rfl) rfl rfl rfl) ?_
      refine d_take 1 rfl rfl (by kernel_rfl) (by kernel_rfl) (by kernel_rfl) (p_fieldb (off := 1) (by kernel_rfl) rfl) ?_
      refine d_take 2 rfl rfl (by kernel_rfl) (by kernel_rfl) (by kernel_rfl) (p_load1b (by kernel_rfl) rfl rfl rfl) ?_
      refine d_take 3 rfl rfl (by kernel_rfl) (by kernel_rfl) (by kernel_rfl) (p_move rfl) ?_
      obtain ⟨z22, hz23, b24⟩ := at_get (xs := (fs14)) (n := (m : Int)) (by omega) (by omega)
      refine d_take 4 rfl rfl (by kernel_rfl) (by kernel_rfl) (by kernel_rfl) (p_index (by kernel_rfl) rfl rfl b24 hz23) ?_
      refine d_take 5 rfl rfl (by kernel_rfl) (by kernel_rfl) (by kernel_rfl) (p_loadA (n := 2) (by kernel_rfl) (by kernel_rfl) rfl rfl) ?_
      refine d_only 6 rfl (by kernel_rfl) rfl (o_call 15 15 true (Go.Proofs.enters_of Tryz.func93 (by kernel_rfl) rfl) (c_spec_l5Put (sigs5) (xs) (z22.1) (z22.2) (by (have e7 := szF_L b4; omega)) (by (have e7 := (b4f _ (List.mem_of_getElem? (by assumption))).2.1; omega))) rfl (.cons rfl (.agg (.cons .t0 (.cons .t0 .nil))) (.cons rfl (.agg (.cons .t0 (.cons .t0 .nil))) .nil)) rfl rfl rfl) ?_
      refine d_only 7 rfl (by kernel_rfl) rfl (o_storeb (n := 2) (by kernel_rfl) rfl rfl rfl rfl rfl rfl) ?_
      refine d_end (by kernel_rfl) ?_
      refine t_endblock ?_
      refine t_region ?_
      refine r_op (o_move rfl rfl) ?_
      refine r_op (o_bin rfl rfl rfl rfl) ?_
      refine r_op (o_assign rfl rfl) ?_
      refine r_end ?_
      refine t_le ?_ (ih0 (m + 1, putF (xs) ((z22.1), (z22.2))) (by (try dsimp only); omega) (by (try dsimp only); exact ⟨by omega, Nat.le_trans (putF_len _ _) (by omega), putF_all b4 (b4f _ (List.mem_of_getElem? hz23))⟩))
      exact ⟨⟨rfl, ⟨rfl, ⟨rfl, ⟨rfl, ⟨(eqI (wr64 (by omega) (by omega))), trivial⟩⟩⟩⟩⟩, ⟨rfl, ⟨rfl, ⟨rfl, ⟨rfl, trivial⟩⟩⟩⟩, rfl⟩
    ·
      have h21' := of_decide_eq_false h21
      refine t_exit rfl ?_
      refine t_region ?_
      refine r_op (o_loadAb rfl (n := 2) (by kernel_rfl) (by kernel_rfl) rfl rfl rfl) ?_
      refine r_op (o_call 15 20 false (Go.Proofs.enters_of Tryz.func87 (by kernel_rfl) rfl) (c_spec_l5Copy (sigs5) (xs) (by (rw [sigs5_len]; omega)) (by (have e7 := szF_L b4; omega))) rfl (.cons rfl (.agg (.cons .t0 (.cons .t0 .nil))) .nil) rfl rfl rfl) ?_
      refine r_op (o_storeb (n := 2) (by kernel_rfl) rfl rfl rfl rfl rfl rfl) ?_
      refine r_end ?_
      refine t_seq ?_
      refine t_seq ?_
      refine t_region ?_
      refine r_op (o_move rfl rfl) ?_
      refine r_opX (o_callGM 0 20 21 (pv := some (v0)) (Go.Proofs.enters_of Tryz.func81 (by kernel_rfl) rfl) (c_spec_l1Below ((((code)))) ((i215)) ((h216)) (14) (by omega) (by omega) (by omega) (by omega) (by omega)) rfl rfl (.cur rfl (.cons rfl .nil)) rfl (fun ⟨_, _, _⟩ => rfl) (fun _ => rfl) (fun ⟨_, _, _⟩ => rfl) rfl rfl) ?_
      rintro ⟨⟨x25, i226, h227⟩, hq28⟩
      try dsimp only at hq28
      try dsimp only
      obtain ⟨q29, q30⟩ := hq28
      refine r_end ?_
      refine t_block ?_
      refine t_seq ?_
      refine t_region ?_
      refine r_op (o_bin rfl rfl rfl rfl) ?_
      refine r_op (o_assign rfl rfl) ?_
      refine r_end ?_
      refine t_cond rfl (fun h31 => ?_) (fun h31 => ?_)
      ·
        have h31' := of_decide_eq_true h31
        refine t_draw (fun i => !(Nat.beq i 3 || Nat.beq i 5 || Nat.beq i 7)) (by kernel_rfl) ?_
        refine d_takeP 0 rfl rfl (by kernel_rfl) (by kernel_rfl) (by kernel_rfl) (pw_fieldb (off := 1) (by kernel_rfl) rfl) ?_
        refine d_take 2 rfl rfl (by kernel_rfl) (by kernel_rfl) (by kernel_rfl) (p_move rfl) ?_
        refine d_twoX 1 3 rfl rfl (by kernel_rfl) rfl rfl (osX (o_load1b rfl (by kernel_rfl) rfl rfl rfl)) (o_callGM 0 21 29 (pv := some (v0)) (Go.Proofs.enters_of Tryz.func161 (by kernel_rfl) rfl) (c_spec_l4Any (((((code))))) ((i226)) ((h227)) (by omega) (by omega) (by omega)) rfl rfl (.cur rfl .nil) rfl (fun ⟨_, _, _, _⟩ => rfl) (fun _ => rfl) (fun ⟨_, _, _, _⟩ => rfl) rfl rfl) ?_ ?_
        ·
          rintro ⟨⟩
          refine d_onlyX 3 rfl (by kernel_rfl) rfl (o_callGM 0 21 29 (pv := some (v0)) (Go.Proofs.enters_of Tryz.func161 (by kernel_rfl) rfl) (c_spec_l4Any (((((code))))) ((i226)) ((h227)) (by omega) (by omega) (by omega)) rfl rfl (.cur rfl .nil) rfl (fun ⟨_, _, _, _⟩ => rfl) (fun _ => rfl) (fun ⟨_, _, _, _⟩ => rfl) rfl rfl) ?_
          rintro ⟨⟨r39, ts40, i241, h242⟩, hq43⟩
          try dsimp only at hq43
          try dsimp only
          obtain ⟨q44, q45⟩ := hq43
          refine d_only 4 rfl (by kernel_rfl) rfl (o_litS 29 (e := 36) (sz := 2) (zs := [.int .i64 (0), .slice none 0 0]) rfl rfl (by kernel_rfl) rfl rfl rfl rfl rfl) ?_
          refine d_only 5 rfl (by kernel_rfl) rfl (o_append 19 (e := 36) (sz := 2) (by' := 32) (((r39), (ts40))) rfl (by kernel_rfl) rfl rfl rfl rfl rfl rfl (.cons .sc (.take (.own rfl) rfl .nil)) rfl (by omega) (by omega)) ?_
          refine d_take 6 rfl rfl (by kernel_rfl) (by kernel_rfl) (by kernel_rfl) (p_fieldb (off := 1) (by kernel_rfl) rfl) ?_
          refine d_only 7 rfl (by kernel_rfl) rfl (o_storeb (n := 1) (by kernel_rfl) rfl rfl rfl rfl rfl rfl) ?_
          refine d_end (by kernel_rfl) ?_
          refine t_endblock ?_
          refine t_seq ?_
          refine t_region ?_
          refine r_op (o_loadAb rfl (n := 2) (by kernel_rfl) (by kernel_rfl) rfl rfl rfl) ?_
          refine r_op (o_storeb (n := 2) (by kernel_rfl) rfl rfl rfl rfl rfl rfl) ?_
          refine r_end ?_
          refine gt_freeze 17 rfl (frz_cur (i := 17) hM rfl rfl rfl) ?_
          refine gt_freeze 19 rfl (frz_cur (i := 19) hM rfl rfl rfl) ?_
          refine t_ret Tryz.func107 (.cells (n := 2) (by kernel_rfl) (by kernel_rfl) rfl rfl rfl .nil) rfl fun E S w u hI hd => ?_
          refine post_mkG (⟨(sigs5), (xs) ++ [((r39), (ts40))], (i241), (h242)⟩) ?_ hI hd ?_ ⟨rfl, trivial⟩ rfl rfl <;> clear hI hd <;> (try clear ih0)
          · (try dsimp only) <;> ((refine ⟨⟨?_, ?_, ?_, ?_⟩, by omega⟩ <;> (try dsimp only)) <;> first | decide | exact relS | (simp only [List.length_append, List.length_singleton]; omega) | exact mem_snoc (by assumption) (by assumption))
          · rfl
        ·
          rintro ⟨⟨r32, ts33, i234, h235⟩, hq36⟩
          try dsimp only at hq36
          try dsimp only
          obtain ⟨q37, q38⟩ := hq36
          refine d_take 1 rfl rfl (by kernel_rfl) (by kernel_rfl) (by kernel_rfl) (p_load1b (by kernel_rfl) rfl rfl rfl) ?_
          refine d_only 4 rfl (by kernel_rfl) rfl (o_litS 29 (e := 36) (sz := 2) (zs := [.int .i64 (0), .slice none 0 0]) rfl rfl (by kernel_rfl) rfl rfl rfl rfl rfl) ?_
          refine d_only 5 rfl (by kernel_rfl) rfl (o_append 19 (e := 36) (sz := 2) (by' := 32) (((r32), (ts33))) rfl (by kernel_rfl) rfl rfl rfl rfl rfl rfl (.cons .sc (.take (.own rfl) rfl .nil)) rfl (by omega) (by omega)) ?_
          refine d_take 6 rfl rfl (by kernel_rfl) (by kernel_rfl) (by kernel_rfl) (p_fieldb (off := 1) (by kernel_rfl) rfl) ?_
          refine d_only 7 rfl (by kernel_rfl) rfl (o_storeb (n := 1) (by kernel_rfl) rfl rfl rfl rfl rfl rfl) ?_
          refine d_end (by kernel_rfl) ?_
          refine t_endblock ?_
          refine t_seq ?_
          refine t_region ?_
          refine r_op (o_loadAb rfl (n := 2) (by kernel_rfl) (by kernel_rfl) rfl rfl rfl) ?_
          refine r_op (o_storeb (n := 2) (by kernel_rfl) rfl rfl rfl rfl rfl rfl) ?_
          refine r_end ?_
          refine gt_freeze 17 rfl (frz_cur (i := 17) hM rfl rfl rfl) ?_
          refine gt_freeze 19 rfl (frz_cur (i := 19) hM rfl rfl rfl) ?_
          refine t_ret Tryz.func107 (.cells (n := 2) (by kernel_rfl) (by kernel_rfl) rfl rfl rfl .nil) rfl fun E S w u hI hd => ?_
          refine post_mkG (⟨(sigs5), (xs) ++ [((r32), (ts33))], (i234), (h235)⟩) ?_ hI hd ?_ ⟨rfl, trivial⟩ rfl rfl <;> clear hI hd <;> (try clear ih0)
          · (try dsimp only) <;> ((refine ⟨⟨?_, ?_, ?_, ?_⟩, by omega⟩ <;> (try dsimp only)) <;> first | decide | exact relS | (simp only [List.length_append, List.length_singleton]; omega) | exact mem_snoc (by assumption) (by assumption))
          · rfl
      ·
        have h31' := of_decide_eq_false h31
        refine t_seq ?_
        refine t_region ?_
        refine r_op (o_bin rfl rfl rfl rfl) ?_
        refine r_op (o_assign rfl rfl) ?_
        refine r_end ?_
        refine t_cond rfl (fun h46 => ?_) (fun h46 => ?_)
        ·
          have h46' := of_decide_eq_true h46
          refine t_region ?_
          refine r_op (o_fieldb rfl (off := 0) (by kernel_rfl) rfl) ?_
          refine r_op (o_load1b rfl (by kernel_rfl) rfl rfl rfl) ?_
          refine r_op (o_subo rfl (by kernel_rfl) rfl rfl (.l rfl (by omega) (by (rw [sigs5_len]; omega)))) ?_
          refine r_op (o_fieldb rfl (off := 0) (by kernel_rfl) rfl) ?_
          refine r_op (o_storeb (n := 1) (by kernel_rfl) rfl rfl rfl rfl rfl rfl) ?_
          refine r_end ?_
          refine t_endblock ?_
          refine t_seq ?_
          refine t_region ?_
          refine r_op (o_loadAb rfl (n := 2) (by kernel_rfl) (by kernel_rfl) rfl rfl rfl) ?_
          refine r_op (o_storeb (n := 2) (by kernel_rfl) rfl rfl rfl rfl rfl rfl) ?_
          refine r_end ?_
          refine gt_freeze 17 rfl (frz_cur (i := 17) hM rfl rfl rfl) ?_
          refine gt_freeze 19 rfl (frz_cur (i := 19) hM rfl rfl rfl) ?_
          refine t_ret Tryz.func107 (.cells (n := 2) (by kernel_rfl) (by kernel_rfl) rfl rfl rfl .nil) rfl fun E S w u hI hd => ?_
          refine post_mkG (⟨(((sigs5)).take ((sigs5)).length).drop ((1 : Int)).toNat, (xs), (i226), (h227)⟩) ?_ hI hd ?_ ⟨rfl, trivial⟩ rfl rfl <;> clear hI hd <;> (try clear ih0)
          · (try dsimp only) <;> ((refine ⟨⟨?_, ?_, ?_, ?_⟩, by omega⟩ <;> (try dsimp only)) <;> first | decide | exact fun z hz => relS z (List.mem_of_mem_take (List.mem_of_mem_drop hz)) | omega)
          · rfl
        ·
          have h46' := of_decide_eq_false h46
          refine t_seq ?_
          refine t_region ?_
          refine r_op (o_bin rfl rfl rfl rfl) ?_
          refine r_op (o_assign rfl rfl) ?_
          refine r_end ?_
          refine t_cond rfl (fun h47 => ?_) (fun h47 => ?_)
          ·
            have h47' := of_decide_eq_true h47
            refine t_draw (fun i => !(Nat.beq i 3 || Nat.beq i 5 || Nat.beq i 7)) (by kernel_rfl) ?_
            refine d_takeP 0 rfl rfl (by kernel_rfl) (by kernel_rfl) (by kernel_rfl) (pw_fieldb (off := 0) (by kernel_rfl) rfl) ?_
            refine d_take 2 rfl rfl (by kernel_rfl) (by kernel_rfl) (by kernel_rfl) (p_move rfl) ?_
            refine d_takeP 4 rfl rfl (by kernel_rfl) (by kernel_rfl) (by kernel_rfl) (pw_move rfl) ?_
            refine d_twoX 1 3 rfl rfl (by kernel_rfl) rfl rfl (osX (o_load1b rfl (by kernel_rfl) rfl rfl rfl)) (o_callGM 0 21 22 (pv := some (v0)) (Go.Proofs.enters_of Tryz.func81 (by kernel_rfl) rfl) (c_spec_l1Below (((((code))))) ((i226)) ((h227)) (5) (by omega) (by omega) (by omega) (by omega) (by omega)) rfl rfl (.cur rfl (.cons rfl .nil)) rfl (fun ⟨_, _, _⟩ => rfl) (fun _ => rfl) (fun ⟨_, _, _⟩ => rfl) rfl rfl) ?_ ?_
            ·
              rintro ⟨⟩
              refine d_onlyX 3 rfl (by kernel_rfl) rfl (o_callGM 0 21 22 (pv := some (v0)) (Go.Proofs.enters_of Tryz.func81 (by kernel_rfl) rfl) (c_spec_l1Below (((((code))))) ((i226)) ((h227)) (5) (by omega) (by omega) (by omega) (by omega) (by omega)) rfl rfl (.cur rfl (.cons rfl .nil)) rfl (fun ⟨_, _, _⟩ => rfl) (fun _ => rfl) (fun ⟨_, _, _⟩ => rfl) rfl rfl) ?_
              rintro ⟨⟨x54, i255, h256⟩, hq57⟩
              try dsimp only at hq57
              try dsimp only
              obtain ⟨q58, q59⟩ := hq57
              refine d_onlyX 5 rfl (by kernel_rfl) rfl (o_callGM 0 22 23 (pv := some (v0)) (Go.Proofs.enters_of Tryz.func162 (by kernel_rfl) rfl) (c_spec_l3One ((((((code)))))) ((i255)) ((h256)) (by omega) (by omega) (by omega)) rfl rfl (.cur rfl .nil) rfl (fun ⟨_, _, _, _, _⟩ => rfl) (fun _ => rfl) (fun ⟨_, _, _, _, _⟩ => rfl) rfl rfl) ?_
              rintro ⟨⟨n60, ar61, b62, i263, h264⟩, hq65⟩
              try dsimp only at hq65
              try dsimp only
              obtain ⟨q66, q67⟩ := hq65
              obtain ⟨z68, hz69, b70⟩ := at_get (xs := (sigs5)) (n := (x54)) (by omega) (by (rw [sigs5_len]; omega))
              refine d_take 6 rfl rfl (by kernel_rfl) (by kernel_rfl) (by kernel_rfl) (p_indexo (by kernel_rfl) rfl rfl rfl b70 (at_lt b70 hz69)) ?_
              refine d_only 7 rfl (by kernel_rfl) rfl (o_storeo (((n60), (ar61), (b62))) (n := 3) (by kernel_rfl) rfl rfl hz69 rfl rfl rfl rfl (.cons .sc (.cons .sc (.cons .sc .nil))) rfl (fun j h1 h2 => by simp at h1 h2; omega)) ?_
              refine d_end (by kernel_rfl) ?_
              refine t_endblock ?_
              refine t_seq ?_
              refine t_region ?_
              refine r_op (o_loadAb rfl (n := 2) (by kernel_rfl) (by kernel_rfl) rfl rfl rfl) ?_
              refine r_op (o_storeb (n := 2) (by kernel_rfl) rfl rfl rfl rfl rfl rfl) ?_
              refine r_end ?_
              refine gt_freeze 17 rfl (frz_cur (i := 17) hM rfl rfl rfl) ?_
              refine gt_freeze 19 rfl (frz_cur (i := 19) hM rfl rfl rfl) ?_
              refine t_ret Tryz.func107 (.cells (n := 2) (by kernel_rfl) (by kernel_rfl) rfl rfl rfl .nil) rfl fun E S w u hI hd => ?_
              refine post_mkG (⟨((sigs5)).set ((x54)).toNat (((n60), (ar61), (b62))), (xs), (i263), (h264)⟩) ?_ hI hd ?_ ⟨rfl, trivial⟩ rfl rfl <;> clear hI hd <;> (try clear ih0)
              · (try dsimp only) <;> ((refine ⟨⟨?_, ?_, ?_, ?_⟩, by omega⟩ <;> (try dsimp only)) <;> first | (simp only [List.length_set, List.length_drop, List.length_take, sigs5_len]; omega) | exact mem_set relS (by unfold relL; (try dsimp only); omega) | omega)
              · rfl
            ·
              rintro ⟨⟨x48, i249, h250⟩, hq51⟩
              try dsimp only at hq51
              try dsimp only
              obtain ⟨q52, q53⟩ := hq51
              refine d_twoX 1 5 rfl rfl (by kernel_rfl) rfl rfl (osX (o_load1b rfl (by kernel_rfl) rfl rfl rfl)) (o_callGM 0 22 23 (pv := some (v0)) (Go.Proofs.enters_of Tryz.func162 (by kernel_rfl) rfl) (c_spec_l3One ((((((code)))))) ((i249)) ((h250)) (by omega) (by omega) (by omega)) rfl rfl (.cur rfl .nil) rfl (fun ⟨_, _, _, _, _⟩ => rfl) (fun _ => rfl) (fun ⟨_, _, _, _, _⟩ => rfl) rfl rfl) ?_ ?_
              ·
                rintro ⟨⟩
                refine d_onlyX 5 rfl (by kernel_rfl) rfl (o_callGM 0 22 23 (pv := some (v0)) (Go.Proofs.enters_of Tryz.func162 (by kernel_rfl) rfl) (c_spec_l3One ((((((code)))))) ((i249)) ((h250)) (by omega) (by omega) (by omega)) rfl rfl (.cur rfl .nil) rfl (fun ⟨_, _, _, _, _⟩ => rfl) (fun _ => rfl) (fun ⟨_, _, _, _, _⟩ => rfl) rfl rfl) ?_
                rintro ⟨⟨n79, ar80, b81, i282, h283⟩, hq84⟩
                try dsimp only at hq84
                try dsimp only
                obtain ⟨q85, q86⟩ := hq84
                obtain ⟨z87, hz88, b89⟩ := at_get (xs := (sigs5)) (n := (x48)) (by omega) (by (rw [sigs5_len]; omega))
                refine d_take 6 rfl rfl (by kernel_rfl) (by kernel_rfl) (by kernel_rfl) (p_indexo (by kernel_rfl) rfl rfl rfl b89 (at_lt b89 hz88)) ?_
                refine d_only 7 rfl (by kernel_rfl) rfl (o_storeo (((n79), (ar80), (b81))) (n := 3) (by kernel_rfl) rfl rfl hz88 rfl rfl rfl rfl (.cons .sc (.cons .sc (.cons .sc .nil))) rfl (fun j h1 h2 => by simp at h1 h2; omega)) ?_
                refine d_end (by kernel_rfl) ?_
                refine t_endblock ?_
                refine t_seq ?_
                refine t_region ?_
                refine r_op (o_loadAb rfl (n := 2) (by kernel_rfl) (by kernel_rfl) rfl rfl rfl) ?_
                refine r_op (o_storeb (n := 2) (by kernel_rfl) rfl rfl rfl rfl rfl rfl) ?_
                refine r_end ?_
                refine gt_freeze 17 rfl (frz_cur (i := 17) hM rfl rfl rfl) ?_
                refine gt_freeze 19 rfl (frz_cur (i := 19) hM rfl rfl rfl) ?_
                refine t_ret Tryz.func107 (.cells (n := 2) (by kernel_rfl) (by kernel_rfl) rfl rfl rfl .nil) rfl fun E S w u hI hd => ?_
                refine post_mkG (⟨((sigs5)).set ((x48)).toNat (((n79), (ar80), (b81))), (xs), (i282), (h283)⟩) ?_ hI hd ?_ ⟨rfl, trivial⟩ rfl rfl <;> clear hI hd <;> (try clear ih0)
                · (try dsimp only) <;> ((refine ⟨⟨?_, ?_, ?_, ?_⟩, by omega⟩ <;> (try dsimp only)) <;> first | (simp only [List.length_set, List.length_drop, List.length_take, sigs5_len]; omega) | exact mem_set relS (by unfold relL; (try dsimp only); omega) | omega)
                · rfl
              ·
                rintro ⟨⟨n71, ar72, b73, i274, h275⟩, hq76⟩
                try dsimp only at hq76
                try dsimp only
                obtain ⟨q77, q78⟩ := hq76
                refine d_take 1 rfl rfl (by kernel_rfl) (by kernel_rfl) (by kernel_rfl) (p_load1b (by kernel_rfl) rfl rfl rfl) ?_
                obtain ⟨z90, hz91, b92⟩ := at_get (xs := (sigs5)) (n := (x48)) (by omega) (by (rw [sigs5_len]; omega))
                refine d_take 6 rfl rfl (by kernel_rfl) (by kernel_rfl) (by kernel_rfl) (p_indexo (by kernel_rfl) rfl rfl rfl b92 (at_lt b92 hz91)) ?_
                refine d_only 7 rfl (by kernel_rfl) rfl (o_storeo (((n71), (ar72), (b73))) (n := 3) (by kernel_rfl) rfl rfl hz91 rfl rfl rfl rfl (.cons .sc (.cons .sc (.cons .sc .nil))) rfl (fun j h1 h2 => by simp at h1 h2; omega)) ?_
                refine d_end (by kernel_rfl) ?_
                refine t_endblock ?_
                refine t_seq ?_
                refine t_region ?_
                refine r_op (o_loadAb rfl (n := 2) (by kernel_rfl) (by kernel_rfl) rfl rfl rfl) ?_
                refine r_op (o_storeb (n := 2) (by kernel_rfl) rfl rfl rfl rfl rfl rfl) ?_
                refine r_end ?_
                refine gt_freeze 17 rfl (frz_cur (i := 17) hM rfl rfl rfl) ?_
                refine gt_freeze 19 rfl (frz_cur (i := 19) hM rfl rfl rfl) ?_
                refine t_ret Tryz.func107 (.cells (n := 2) (by kernel_rfl) (by kernel_rfl) rfl rfl rfl .nil) rfl fun E S w u hI hd => ?_
                refine post_mkG (⟨((sigs5)).set ((x48)).toNat (((n71), (ar72), (b73))), (xs), (i274), (h275)⟩) ?_ hI hd ?_ ⟨rfl, trivial⟩ rfl rfl <;> clear hI hd <;> (try clear ih0)
                · (try dsimp only) <;> ((refine ⟨⟨?_, ?_, ?_, ?_⟩, by omega⟩ <;> (try dsimp only)) <;> first | (simp only [List.length_set, List.length_drop, List.length_take, sigs5_len]; omega) | exact mem_set relS (by unfold relL; (try dsimp only); omega) | omega)
                · rfl
          ·
            have h47' := of_decide_eq_false h47
            refine t_skip ?_
            refine t_endblock ?_
            refine t_seq ?_
            refine t_region ?_
            refine r_op (o_loadAb rfl (n := 2) (by kernel_rfl) (by kernel_rfl) rfl rfl rfl) ?_
            refine r_op (o_storeb (n := 2) (by kernel_rfl) rfl rfl rfl rfl rfl rfl) ?_
            refine r_end ?_
            refine gt_freeze 17 rfl (frz_cur (i := 17) hM rfl rfl rfl) ?_
            refine gt_freeze 19 rfl (frz_cur (i := 19) hM rfl rfl rfl) ?_
            refine t_ret Tryz.func107 (.cells (n := 2) (by kernel_rfl) (by kernel_rfl) rfl rfl rfl .nil) rfl fun E S w u hI hd => ?_
            refine post_mkG (⟨(sigs5), (xs), (i226), (h227)⟩) ?_ hI hd ?_ ⟨rfl, trivial⟩ rfl rfl <;> clear hI hd <;> (try clear ih0)
            · (try dsimp only) <;> ((refine ⟨⟨?_, ?_, ?_, ?_⟩, by omega⟩ <;> (try dsimp only)) <;> first | decide | exact relS | omega)
            · rfl
  ·
    have h13' := h13
    refine t_skip ?_
    refine t_seq ?_
    refine t_seq ?_
    refine t_region ?_
    refine r_op (o_move rfl rfl) ?_
    refine r_opX (o_callGM 0 9 10 (pv := some (v0)) (Go.Proofs.enters_of Tryz.func81 (by kernel_rfl) rfl) (c_spec_l1Below (((code))) ((i29)) ((h210)) (14) (by omega) (by omega) (by omega) (by omega) (by omega)) rfl rfl (.cur rfl (.cons rfl .nil)) rfl (fun ⟨_, _, _⟩ => rfl) (fun _ => rfl) (fun ⟨_, _, _⟩ => rfl) rfl rfl) ?_
    rintro ⟨⟨x93, i294, h295⟩, hq96⟩
    try dsimp only at hq96
    try dsimp only
    obtain ⟨q97, q98⟩ := hq96
    refine r_end ?_
    refine t_block ?_
    refine t_seq ?_
    refine t_region ?_
    refine r_op (o_bin rfl rfl rfl rfl) ?_
    refine r_op (o_assign rfl rfl) ?_
    refine r_end ?_
    refine t_cond rfl (fun h99 => ?_) (fun h99 => ?_)
    ·
      have h99' := of_decide_eq_true h99
      refine t_draw (fun i => !(Nat.beq i 3 || Nat.beq i 5 || Nat.beq i 7)) (by kernel_rfl) ?_
      refine d_takeP 0 rfl rfl (by kernel_rfl) (by kernel_rfl) (by kernel_rfl) (pw_fieldb (off := 1) (by kernel_rfl) rfl) ?_
      refine d_take 2 rfl rfl (by kernel_rfl) (by kernel_rfl) (by kernel_rfl) (p_move rfl) ?_
      refine d_twoX 1 3 rfl rfl (by kernel_rfl) rfl rfl (osX (o_load1b rfl (by kernel_rfl) rfl rfl rfl)) (o_callGM 0 10 18 (pv := some (v0)) (Go.Proofs.enters_of Tryz.func161 (by kernel_rfl) rfl) (c_spec_l4Any ((((code)))) ((i294)) ((h295)) (by omega) (by omega) (by omega)) rfl rfl (.cur rfl .nil) rfl (fun ⟨_, _, _, _⟩ => rfl) (fun _ => rfl) (fun ⟨_, _, _, _⟩ => rfl) rfl rfl) ?_ ?_
      ·
        rintro ⟨⟩
        refine d_onlyX 3 rfl (by kernel_rfl) rfl (o_callGM 0 10 18 (pv := some (v0)) (Go.Proofs.enters_of Tryz.func161 (by kernel_rfl) rfl) (c_spec_l4Any ((((code)))) ((i294)) ((h295)) (by omega) (by omega) (by omega)) rfl rfl (.cur rfl .nil) rfl (fun ⟨_, _, _, _⟩ => rfl) (fun _ => rfl) (fun ⟨_, _, _, _⟩ => rfl) rfl rfl) ?_
        rintro ⟨⟨r107, ts108, i2109, h2110⟩, hq111⟩
        try dsimp only at hq111
        try dsimp only
        obtain ⟨q112, q113⟩ := hq111
        refine d_only 4 rfl (by kernel_rfl) rfl (o_litS 18 (e := 36) (sz := 2) (zs := [.int .i64 (0), .slice none 0 0]) rfl rfl (by kernel_rfl) rfl rfl rfl rfl rfl) ?_
        refine d_only 5 rfl (by kernel_rfl) rfl (o_append 6 (e := 36) (sz := 2) (by' := 32) (((r107), (ts108))) rfl (by kernel_rfl) rfl rfl rfl rfl rfl rfl (.cons .sc (.take (.own rfl) rfl .nil)) rfl (by omega) (by omega)) ?_
        refine d_take 6 rfl rfl (by kernel_rfl) (by kernel_rfl) (by kernel_rfl) (p_fieldb (off := 1) (by kernel_rfl) rfl) ?_
        refine d_only 7 rfl (by kernel_rfl) rfl (o_storeb (n := 1) (by kernel_rfl) rfl rfl rfl rfl rfl rfl) ?_
        refine d_end (by kernel_rfl) ?_
        refine t_endblock ?_
        refine t_seq ?_
        refine t_region ?_
        refine r_op (o_loadAb rfl (n := 2) (by kernel_rfl) (by kernel_rfl) rfl rfl rfl) ?_
        refine r_op (o_storeb (n := 2) (by kernel_rfl) rfl rfl rfl rfl rfl rfl) ?_
        refine r_end ?_
        refine gt_freeze 5 rfl (frz_cur (i := 5) hM rfl rfl rfl) ?_
        refine gt_freeze 6 rfl (frz_cur (i := 6) hM rfl rfl rfl) ?_
        refine t_ret Tryz.func107 (.cells (n := 2) (by kernel_rfl) (by kernel_rfl) rfl rfl rfl .nil) rfl fun E S w u hI hd => ?_
        refine post_mkG (⟨sigs5, (fs1) ++ [((r107), (ts108))], (i2109), (h2110)⟩) ?_ hI hd ?_ ⟨rfl, trivial⟩ rfl rfl <;> clear hI hd <;> (try clear ih0)
        · (try dsimp only) <;> ((refine ⟨⟨?_, ?_, ?_, ?_⟩, by omega⟩ <;> (try dsimp only)) <;> first | decide | exact relS | (simp only [List.length_append, List.length_singleton]; omega) | exact mem_snoc (by assumption) (by assumption))
        · rfl
      ·
        rintro ⟨⟨r100, ts101, i2102, h2103⟩, hq104⟩
        try dsimp only at hq104
        try dsimp only
        obtain ⟨q105, q106⟩ := hq104
        refine d_take 1 rfl rfl (by kernel_rfl) (by kernel_rfl) (by kernel_rfl) (p_load1b (by kernel_rfl) rfl rfl rfl) ?_
        refine d_only 4 rfl (by kernel_rfl) rfl (o_litS 18 (e := 36) (sz := 2) (zs := [.int .i64 (0), .slice none 0 0]) rfl rfl (by kernel_rfl) rfl rfl rfl rfl rfl) ?_
        refine d_only 5 rfl (by kernel_rfl) rfl (o_append 6 (e := 36) (sz := 2) (by' := 32) (((r100), (ts101))) rfl (by kernel_rfl) rfl rfl rfl rfl rfl rfl (.cons .sc (.take (.own rfl) rfl .nil)) rfl (by omega) (by omega)) ?_
        refine d_take 6 rfl rfl (by kernel_rfl) (by kernel_rfl) (by kernel_rfl) (p_fieldb (off := 1) (by kernel_rfl) rfl) ?_
        refine d_only 7 rfl (by kernel_rfl) rfl (o_storeb (n := 1) (by kernel_rfl) rfl rfl rfl rfl rfl rfl) ?_
        refine d_end (by kernel_rfl) ?_
        refine t_endblock ?_
        refine t_seq ?_
        refine t_region ?_
        refine r_op (o_loadAb rfl (n := 2) (by kernel_rfl) (by kernel_rfl) rfl rfl rfl) ?_
        refine r_op (o_storeb (n := 2) (by kernel_rfl) rfl rfl rfl rfl rfl rfl) ?_
        refine r_end ?_
        refine gt_freeze 5 rfl (frz_cur (i := 5) hM rfl rfl rfl) ?_
        refine gt_freeze 6 rfl (frz_cur (i := 6) hM rfl rfl rfl) ?_
        refine t_ret Tryz.func107 (.cells (n := 2) (by kernel_rfl) (by kernel_rfl) rfl rfl rfl .nil) rfl fun E S w u hI hd => ?_
        refine post_mkG (⟨sigs5, (fs1) ++ [((r100), (ts101))], (i2102), (h2103)⟩) ?_ hI hd ?_ ⟨rfl, trivial⟩ rfl rfl <;> clear hI hd <;> (try clear ih0)
        · (try dsimp only) <;> ((refine ⟨⟨?_, ?_, ?_, ?_⟩, by omega⟩ <;> (try dsimp only)) <;> first | decide | exact relS | (simp only [List.length_append, List.length_singleton]; omega) | exact mem_snoc (by assumption) (by assumption))
        · rfl
    ·
      have h99' := of_decide_eq_false h99
      refine t_seq ?_
      refine t_region ?_
      refine r_op (o_bin rfl rfl rfl rfl) ?_
      refine r_op (o_assign rfl rfl) ?_
      refine r_end ?_
      refine t_cond rfl (fun h114 => ?_) (fun h114 => ?_)
      ·
        have h114' := of_decide_eq_true h114
        refine t_region ?_
        refine r_op (o_fieldb rfl (off := 0) (by kernel_rfl) rfl) ?_
        refine r_op (o_load1b rfl (by kernel_rfl) rfl rfl rfl) ?_
        refine r_op (o_subo rfl (by kernel_rfl) rfl rfl (.l rfl (by omega) (by (rw [sigs5_len]; omega)))) ?_
        refine r_op (o_fieldb rfl (off := 0) (by kernel_rfl) rfl) ?_
        refine r_op (o_storeb (n := 1) (by kernel_rfl) rfl rfl rfl rfl rfl rfl) ?_
        refine r_end ?_
        refine t_endblock ?_
        refine t_seq ?_
        refine t_region ?_
        refine r_op (o_loadAb rfl (n := 2) (by kernel_rfl) (by kernel_rfl) rfl rfl rfl) ?_
        refine r_op (o_storeb (n := 2) (by kernel_rfl) rfl rfl rfl rfl rfl rfl) ?_
        refine r_end ?_
        refine gt_freeze 5 rfl (frz_cur (i := 5) hM rfl rfl rfl) ?_
        refine gt_freeze 6 rfl (frz_cur (i := 6) hM rfl rfl rfl) ?_
        refine t_ret Tryz.func107 (.cells (n := 2) (by kernel_rfl) (by kernel_rfl) rfl rfl rfl .nil) rfl fun E S w u hI hd => ?_
        refine post_mkG (⟨((sigs5).take (sigs5).length).drop ((1 : Int)).toNat, (fs1), (i294), (h295)⟩) ?_ hI hd ?_ ⟨rfl, trivial⟩ rfl rfl <;> clear hI hd <;> (try clear ih0)
        · (try dsimp only) <;> ((refine ⟨⟨?_, ?_, ?_, ?_⟩, by omega⟩ <;> (try dsimp only)) <;> first | decide | exact fun z hz => relS z (List.mem_of_mem_take (List.mem_of_mem_drop hz)) | omega)
        · rfl
      ·
        have h114' := of_decide_eq_false h114
        refine t_seq ?_
        refine t_region ?_
        refine r_op (o_bin rfl rfl rfl rfl) ?_
        refine r_op (o_assign rfl rfl) ?_
        refine r_end ?_
        refine t_cond rfl (fun h115 => ?_) (fun h115 => ?_)
        ·
          have h115' := of_decide_eq_true h115
          refine t_draw (fun i => !(Nat.beq i 3 || Nat.beq i 5 || Nat.beq i 7)) (by kernel_rfl) ?_
          refine d_takeP 0 rfl rfl (by kernel_rfl) (by kernel_rfl) (by kernel_rfl) (pw_fieldb (off := 0) (by kernel_rfl) rfl) ?_
          refine d_take 2 rfl rfl (by kernel_rfl) (by kernel_rfl) (by kernel_rfl) (p_move rfl) ?_
          refine d_takeP 4 rfl rfl (by kernel_rfl) (by kernel_rfl) (by kernel_rfl) (pw_move rfl) ?_
          refine d_twoX 1 3 rfl rfl (by kernel_rfl) rfl rfl (osX (o_load1b rfl (by kernel_rfl) rfl rfl rfl)) (o_callGM 0 10 11 (pv := some (v0)) (Go.Proofs.enters_of Tryz.func81 (by kernel_rfl) rfl) (c_spec_l1Below ((((code)))) ((i294)) ((h295)) (5) (by omega) (by omega) (by omega) (by omega) (by omega)) rfl rfl (.cur rfl (.cons rfl .nil)) rfl (fun ⟨_, _, _⟩ => rfl) (fun _ => rfl) (fun ⟨_, _, _⟩ => rfl) rfl rfl) ?_ ?_
          ·
            rintro ⟨⟩
            refine d_onlyX 3 rfl (by kernel_rfl) rfl (o_callGM 0 10 11 (pv := some (v0)) (Go.Proofs.enters_of Tryz.func81 (by kernel_rfl) rfl) (c_spec_l1Below ((((code)))) ((i294)) ((h295)) (5) (by omega) (by omega) (by omega) (by omega) (by omega)) rfl rfl (.cur rfl (.cons rfl .nil)) rfl (fun ⟨_, _, _⟩ => rfl) (fun _ => rfl) (fun ⟨_, _, _⟩ => rfl) rfl rfl) ?_
            rintro ⟨⟨x122, i2123, h2124⟩, hq125⟩
            try dsimp only at hq125
            try dsimp only
            obtain ⟨q126, q127⟩ := hq125
            refine d_onlyX 5 rfl (by kernel_rfl) rfl (o_callGM 0 11 12 (pv := some (v0)) (Go.Proofs.enters_of Tryz.func162 (by kernel_rfl) rfl) (c_spec_l3One (((((code))))) ((i2123)) ((h2124)) (by omega) (by omega) (by omega)) rfl rfl (.cur rfl .nil) rfl (fun ⟨_, _, _, _, _⟩ => rfl) (fun _ => rfl) (fun ⟨_, _, _, _, _⟩ => rfl) rfl rfl) ?_
            rintro ⟨⟨n128, ar129, b130, i2131, h2132⟩, hq133⟩
            try dsimp only at hq133
            try dsimp only
            obtain ⟨q134, q135⟩ := hq133
            obtain ⟨z136, hz137, b138⟩ := at_get (xs := sigs5) (n := (x122)) (by omega) (by (rw [sigs5_len]; omega))
            refine d_take 6 rfl rfl (by kernel_rfl) (by kernel_rfl) (by kernel_rfl) (p_indexo (by kernel_rfl) rfl rfl rfl b138 (at_lt b138 hz137)) ?_
            refine d_only 7 rfl (by kernel_rfl) rfl (o_storeo (((n128), (ar129), (b130))) (n := 3) (by kernel_rfl) rfl rfl hz137 rfl rfl rfl rfl (.cons .sc (.cons .sc (.cons .sc .nil))) rfl (fun j h1 h2 => by simp at h1 h2; omega)) ?_
            refine d_end (by kernel_rfl) ?_
            refine t_endblock ?_
            refine t_seq ?_
            refine t_region ?_
            refine r_op (o_loadAb rfl (n := 2) (by kernel_rfl) (by kernel_rfl) rfl rfl rfl) ?_
            refine r_op (o_storeb (n := 2) (by kernel_rfl) rfl rfl rfl rfl rfl rfl) ?_
            refine r_end ?_
            refine gt_freeze 5 rfl (frz_cur (i := 5) hM rfl rfl rfl) ?_
            refine gt_freeze 6 rfl (frz_cur (i := 6) hM rfl rfl rfl) ?_
            refine t_ret Tryz.func107 (.cells (n := 2) (by kernel_rfl) (by kernel_rfl) rfl rfl rfl .nil) rfl fun E S w u hI hd => ?_
            refine post_mkG (⟨(sigs5).set ((x122)).toNat (((n128), (ar129), (b130))), (fs1), (i2131), (h2132)⟩) ?_ hI hd ?_ ⟨rfl, trivial⟩ rfl rfl <;> clear hI hd <;> (try clear ih0)
            · (try dsimp only) <;> ((refine ⟨⟨?_, ?_, ?_, ?_⟩, by omega⟩ <;> (try dsimp only)) <;> first | (simp only [List.length_set, List.length_drop, List.length_take, sigs5_len]; omega) | exact mem_set relS (by unfold relL; (try dsimp only); omega) | omega)
            · rfl
          ·
            rintro ⟨⟨x116, i2117, h2118⟩, hq119⟩
            try dsimp only at hq119
            try dsimp only
            obtain ⟨q120, q121⟩ := hq119
            refine d_twoX 1 5 rfl rfl (by kernel_rfl) rfl rfl (osX (o_load1b rfl (by kernel_rfl) rfl rfl rfl)) (o_callGM 0 11 12 (pv := some (v0)) (Go.Proofs.enters_of Tryz.func162 (by kernel_rfl) rfl) (c_spec_l3One (((((code))))) ((i2117)) ((h2118)) (by omega) (by omega) (by omega)) rfl rfl (.cur rfl .nil) rfl (fun ⟨_, _, _, _, _⟩ => rfl) (fun _ => rfl) (fun ⟨_, _, _, _, _⟩ => rfl) rfl rfl) ?_ ?_
            ·
              rintro ⟨⟩
              refine d_onlyX 5 rfl (by kernel_rfl) rfl (o_callGM 0 11 12 (pv := some (v0)) (Go.Proofs.enters_of Tryz.func162 (by kernel_rfl) rfl) (c_spec_l3One (((((code))))) ((i2117)) ((h2118)) (by omega) (by omega) (by omega)) rfl rfl (.cur rfl .nil) rfl (fun ⟨_, _, _, _, _⟩ => rfl) (fun _ => rfl) (fun ⟨_, _, _, _, _⟩ => rfl) rfl rfl) ?_
              rintro ⟨⟨n147, ar148, b149, i2150, h2151⟩, hq152⟩
              try dsimp only at hq152
              try dsimp only
              obtain ⟨q153, q154⟩ := hq152
              obtain ⟨z155, hz156, b157⟩ := at_get (xs := sigs5) (n := (x116)) (by omega) (by (rw [sigs5_len]; omega))
              refine d_take 6 rfl rfl (by kernel_rfl) (by kernel_rfl) (by kernel_rfl) (p_indexo (by kernel_rfl) rfl rfl rfl b157 (at_lt b157 hz156)) ?_
              refine d_only 7 rfl (by kernel_rfl) rfl (o_storeo (((n147), (ar148), (b149))) (n := 3) (by kernel_rfl) rfl rfl hz156 rfl rfl rfl rfl (.cons .sc (.cons .sc (.cons .sc .nil))) rfl (fun j h1 h2 => by simp at h1 h2; omega)) ?_
              refine d_end (by kernel_rfl) ?_
              refine t_endblock ?_
              refine t_seq ?_
              refine t_region ?_
              refine r_op (o_loadAb rfl (n := 2) (by kernel_rfl) (by kernel_rfl) rfl rfl rfl) ?_
              refine r_op (o_storeb (n := 2) (by kernel_rfl) rfl rfl rfl rfl rfl rfl) ?_
              refine r_end ?_
              refine gt_freeze 5 rfl (frz_cur (i := 5) hM rfl rfl rfl) ?_
              refine gt_freeze 6 rfl (frz_cur (i := 6) hM rfl rfl rfl) ?_
              refine t_ret Tryz.func107 (.cells (n := 2) (by kernel_rfl) (by kernel_rfl) rfl rfl rfl .nil) rfl fun E S w u hI hd => ?_
              refine post_mkG (⟨(sigs5).set ((x116)).toNat (((n147), (ar148), (b149))), (fs1), (i2150), (h2151)⟩) ?_ hI hd ?_ ⟨rfl, trivial⟩ rfl rfl <;> clear hI hd <;> (try clear ih0)
              · (try dsimp only) <;> ((refine ⟨⟨?_, ?_, ?_, ?_⟩, by omega⟩ <;> (try dsimp only)) <;> first | (simp only [List.length_set, List.length_drop, List.length_take, sigs5_len]; omega) | exact mem_set relS (by unfold relL; (try dsimp only); omega) | omega)
              · rfl
            ·
              rintro ⟨⟨n139, ar140, b141, i2142, h2143⟩, hq144⟩
              try dsimp only at hq144
              try dsimp only
              obtain ⟨q145, q146⟩ := hq144
              refine d_take 1 rfl rfl (by kernel_rfl) (by kernel_rfl) (by kernel_rfl) (p_load1b (by kernel_rfl) rfl rfl rfl) ?_
              obtain ⟨z158, hz159, b160⟩ := at_get (xs := sigs5) (n := (x116)) (by omega) (by (rw [sigs5_len]; omega))
              refine d_take 6 rfl rfl (by kernel_rfl) (by kernel_rfl) (by kernel_rfl) (p_indexo (by kernel_rfl) rfl rfl rfl b160 (at_lt b160 hz159)) ?_
              refine d_only 7 rfl (by kernel_rfl) rfl (o_storeo (((n139), (ar140), (b141))) (n := 3) (by kernel_rfl) rfl rfl hz159 rfl rfl rfl rfl (.cons .sc (.cons .sc (.cons .sc .nil))) rfl (fun j h1 h2 => by simp at h1 h2; omega)) ?_
              refine d_end (by kernel_rfl) ?_
              refine t_endblock ?_
              refine t_seq ?_
              refine t_region ?_
              refine r_op (o_loadAb rfl (n := 2) (by kernel_rfl) (by kernel_rfl) rfl rfl rfl) ?_
              refine r_op (o_storeb (n := 2) (by kernel_rfl) rfl rfl rfl rfl rfl rfl) ?_
              refine r_end ?_
              refine gt_freeze 5 rfl (frz_cur (i := 5) hM rfl rfl rfl) ?_
              refine gt_freeze 6 rfl (frz_cur (i := 6) hM rfl rfl rfl) ?_
              refine t_ret Tryz.func107 (.cells (n := 2) (by kernel_rfl) (by kernel_rfl) rfl rfl rfl .nil) rfl fun E S w u hI hd => ?_
              refine post_mkG (⟨(sigs5).set ((x116)).toNat (((n139), (ar140), (b141))), (fs1), (i2142), (h2143)⟩) ?_ hI hd ?_ ⟨rfl, trivial⟩ rfl rfl <;> clear hI hd <;> (try clear ih0)
              · (try dsimp only) <;> ((refine ⟨⟨?_, ?_, ?_, ?_⟩, by omega⟩ <;> (try dsimp only)) <;> first | (simp only [List.length_set, List.length_drop, List.length_take, sigs5_len]; omega) | exact mem_set relS (by unfold relL; (try dsimp only); omega) | omega)
              · rfl
        ·
          have h115' := of_decide_eq_false h115
          refine t_skip ?_
          refine t_endblock ?_
          refine t_seq ?_
          refine t_region ?_
          refine r_op (o_loadAb rfl (n := 2) (by kernel_rfl) (by kernel_rfl) rfl rfl rfl) ?_
          refine r_op (o_storeb (n := 2) (by kernel_rfl) rfl rfl rfl rfl rfl rfl) ?_
          refine r_end ?_
          refine gt_freeze 5 rfl (frz_cur (i := 5) hM rfl rfl rfl) ?_
          refine gt_freeze 6 rfl (frz_cur (i := 6) hM rfl rfl rfl) ?_
          refine t_ret Tryz.func107 (.cells (n := 2) (by kernel_rfl) (by kernel_rfl) rfl rfl rfl .nil) rfl fun E S w u hI hd => ?_
          refine post_mkG (⟨sigs5, (fs1), (i294), (h295)⟩) ?_ hI hd ?_ ⟨rfl, trivial⟩ rfl rfl <;> clear hI hd <;> (try clear ih0)
          · (try dsimp only) <;> ((refine ⟨⟨?_, ?_, ?_, ?_⟩, by omega⟩ <;> (try dsimp only)) <;> first | decide | exact relS | omega)
          · rfl
set_option maxHeartbeats 1000000 in
set_option maxRecDepth 10000 in
theorem c_spec_l9Any (code : List Int) (i h : Int) (hc : code.length ≤ 1048576) (hi0 : 0 ≤ i) (hi1 : i ≤ code.length) : MuG Tryz.prog 108 [.c (.ptr 0 0)] [.t none (.sl 1 encU (code)), .t none (.v (.int .i64 (i))), .t none (.v (.int .i64 (h)))] (fun (⟨b, hs, e, lv, rv, i2, h2⟩ : Atoms × Atoms × Bool × Int × Int × Int × Int) => depL (b, hs, e, lv, rv) ∧ 0 ≤ i2 ∧ i2 ≤ code.length) (fun (⟨b, hs, e, lv, rv, i2, h2⟩ : Atoms × Atoms × Bool × Int × Int × Int × Int) => [.t none (.sl 1 encU (code)), .t none (.v (.int .i64 (i2))), .t none (.v (.int .i64 (h2)))]) (fun (⟨b, hs, e, lv, rv, i2, h2⟩ : Atoms × Atoms × Bool × Int × Int × Int × Int) => [(7, some (.row none 40 true 2 (enS2 encI (enSl 1 encI)) (b))), (8, some (.row none 40 true 2 (enS2 encI (enSl 1 encI)) (hs)))]) 9 (fun (⟨b, hs, e, lv, rv, i2, h2⟩ : Atoms × Atoms × Bool × Int × Int × Int × Int) => .agg [.own 7, .own 8, .t none (.v (.bool (e))), .t none (.v (.int .i64 (lv))), .t none (.v (.int .i64 (rv)))]) := by
  refine mu_enterG Tryz.func108 rfl (Nat.le_of_ble_eq_true rfl) fun v0 w S M hM => ?_
  refine t_seq ?_
  refine t_region ?_
  refine r_op (o_alloc 1 (zs := [.slice none 0 0, .slice none 0 0, .bool (false), .int .i64 (0), .int .i64 (0)]) rfl rfl (by kernel_rfl) rfl) ?_
  refine r_end ?_
  refine t_seq ?_
  refine t_region ?_
  refine r_op (o_move rfl rfl) ?_
  refine r_opX (o_callGM 0 2 9 (pv := some (v0)) (Go.Proofs.enters_of Tryz.func106 (by kernel_rfl) rfl) (c_spec_l9Rule (code) (i) (h) (by omega) (by omega) (by omega)) rfl rfl (.cur rfl .nil) rfl (fun ⟨_, _, _, _, _, _, _⟩ => rfl) (fun _ => rfl) (fun ⟨_, _, _, _, _, _, _⟩ => rfl) rfl rfl) ?_
  rintro ⟨⟨b1, hs2, e3, lv4, rv5, i26, h27⟩, hq8⟩
  try dsimp only at hq8
  try dsimp only
  obtain ⟨q9, q10, q11⟩ := hq8
  have kd : depL (b1, hs2, e3, lv4, rv5) := (by assumption); obtain ⟨k1, k2, k3, k4, k5, k6⟩ := kd; (try dsimp only at k1 k2 k3 k4 k5 k6); have sa := szA_L k3; have sb := szA_L k4; have k7 : ∀ z, b1[(0 : Int).toNat]? = some z → 1 ≤ z.2.length := fun z hz => (k3 z (List.mem_of_getElem? hz)).2.1.1; have k8 : hs2.length ≤ 2 := (by assumption)
  refine r_op (o_alloc 9 (zs := [.slice none 0 0, .slice none 0 0, .bool (false), .int .i64 (0), .int .i64 (0)]) rfl rfl (by kernel_rfl) rfl) ?_
  refine r_op (o_storeb (n := 5) (by kernel_rfl) rfl rfl rfl rfl rfl rfl) ?_
  refine r_end ?_
  refine t_seq ?_
  refine t_seq ?_
  refine t_region ?_
  refine r_op (o_move rfl rfl) ?_
  refine r_opX (o_callGM 0 10 11 (pv := some (v0)) (Go.Proofs.enters_of Tryz.func81 (by kernel_rfl) rfl) (c_spec_l1Below ((code)) ((i26)) ((h27)) (12) (by omega) (by omega) (by omega) (by omega) (by omega)) rfl rfl (.cur rfl (.cons rfl .nil)) rfl (fun ⟨_, _, _⟩ => rfl) (fun _ => rfl) (fun ⟨_, _, _⟩ => rfl) rfl rfl) ?_
  rintro ⟨⟨x12, i213, h214⟩, hq15⟩
  try dsimp only at hq15
  try dsimp only
  obtain ⟨q16, q17⟩ := hq15
  refine r_end ?_
  refine t_block ?_
  refine t_seq ?_
  refine t_region ?_
  refine r_op (o_bin rfl rfl rfl rfl) ?_
  refine r_op (o_assign rfl rfl) ?_
  refine r_end ?_
  refine t_cond rfl (fun h18 => ?_) (fun h18 => ?_)
  ·
    have h18' := of_decide_eq_true h18
    refine t_draw (fun i => !(Nat.beq i 3 || Nat.beq i 7)) (by kernel_rfl) ?_
    refine d_takeP 0 rfl rfl (by kernel_rfl) (by kernel_rfl) (by kernel_rfl) (pw_fieldb (off := 0) (by kernel_rfl) rfl) ?_
    refine d_take 2 rfl rfl (by kernel_rfl) (by kernel_rfl) (by kernel_rfl) (p_move rfl) ?_
    refine d_twoX 1 3 rfl rfl (by kernel_rfl) rfl rfl (osX (o_load1b rfl (by kernel_rfl) rfl rfl rfl)) (o_callGM 0 11 12 (pv := some (v0)) (Go.Proofs.enters_of Tryz.func81 (by kernel_rfl) rfl) (c_spec_l1Below (((code))) ((i213)) ((h214)) (7) (by omega) (by omega) (by omega) (by omega) (by omega)) rfl rfl (.cur rfl (.cons rfl .nil)) rfl (fun ⟨_, _, _⟩ => rfl) (fun _ => rfl) (fun ⟨_, _, _⟩ => rfl) rfl rfl) ?_ ?_
    ·
      rintro ⟨⟩
      refine d_onlyX 3 rfl (by kernel_rfl) rfl (o_callGM 0 11 12 (pv := some (v0)) (Go.Proofs.enters_of Tryz.func81 (by kernel_rfl) rfl) (c_spec_l1Below (((code))) ((i213)) ((h214)) (7) (by omega) (by omega) (by omega) (by omega) (by omega)) rfl rfl (.cur rfl (.cons rfl .nil)) rfl (fun ⟨_, _, _⟩ => rfl) (fun _ => rfl) (fun ⟨_, _, _⟩ => rfl) rfl rfl) ?_
      rintro ⟨⟨x25, i226, h227⟩, hq28⟩
      try dsimp only at hq28
      try dsimp only
      obtain ⟨q29, q30⟩ := hq28
      refine d_take 4 rfl rfl (by kernel_rfl) (by kernel_rfl) (by kernel_rfl) (p_bin rfl rfl rfl) ?_
      obtain ⟨z31, hz32, b33⟩ := at_get (xs := (b1)) (n := 0) (by omega) (by omega)
      refine d_take 5 rfl rfl (by kernel_rfl) (by kernel_rfl) (by kernel_rfl) (p_indexo (by kernel_rfl) rfl rfl rfl b33 (at_lt b33 hz32)) ?_
      refine d_take 6 rfl rfl (by kernel_rfl) (by kernel_rfl) (by kernel_rfl) (p_fieldo (off := 0) (by kernel_rfl) rfl) ?_
      refine d_only 7 rfl (by kernel_rfl) rfl (o_storeo ((IntKind.i64.wrap ((x25) - 1), z31.2)) (n := 1) (by kernel_rfl) rfl rfl hz32 rfl rfl rfl rfl (.cons .sc .nil) rfl (fun j h1 h2 => by (have : j = 0 ∨ j = 1 ∨ j = 2 ∨ j = 3 ∨ j = 4 := by omega); rcases this with rfl | rfl | rfl | rfl | rfl <;> first | rfl | (simp at h2; done))) ?_
      refine d_end (by kernel_rfl) ?_
      refine t_endblock ?_
      refine t_seq ?_
      refine t_region ?_
      refine r_op (o_loadAb rfl (n := 5) (by kernel_rfl) (by kernel_rfl) rfl rfl rfl) ?_
      refine r_op (o_storeb (n := 5) (by kernel_rfl) rfl rfl rfl rfl rfl rfl) ?_
      refine r_end ?_
      refine t_ret Tryz.func108 (.cells (n := 5) (by kernel_rfl) (by kernel_rfl) rfl rfl rfl .nil) rfl fun E S w u hI hd => ?_
      refine post_mkG (⟨((b1)).set ((0 : Int)).toNat ((IntKind.i64.wrap ((x25) - 1), z31.2)), (hs2), (e3), (lv4), (rv5), (i226), (h227)⟩) ?_ hI hd ?_ ⟨rfl, ⟨rfl, ⟨rfl, trivial⟩⟩⟩ rfl rfl <;> clear hI hd
      · (try dsimp only) <;> ((refine ⟨⟨by (simp only [List.length_set]; omega), k2, mem_set k3 (by have e8 := k3 _ (List.mem_of_getElem? hz32); exact ⟨by (try dsimp only); (try simp only [IntKind.wrap_i64] at *); omega, e8.2.1, e8.2.2⟩), k4, k5, k6⟩, by omega⟩; done))
      · rfl
    ·
      rintro ⟨⟨x19, i220, h221⟩, hq22⟩
      try dsimp only at hq22
      try dsimp only
      obtain ⟨q23, q24⟩ := hq22
      refine d_take 1 rfl rfl (by kernel_rfl) (by kernel_rfl) (by kernel_rfl) (p_load1b (by kernel_rfl) rfl rfl rfl) ?_
      refine d_take 4 rfl rfl (by kernel_rfl) (by kernel_rfl) (by kernel_rfl) (p_bin rfl rfl rfl) ?_
      obtain ⟨z34, hz35, b36⟩ := at_get (xs := (b1)) (n := 0) (by omega) (by omega)
      refine d_take 5 rfl rfl (by kernel_rfl) (by kernel_rfl) (by kernel_rfl) (p_indexo (by kernel_rfl) rfl rfl rfl b36 (at_lt b36 hz35)) ?_
      refine d_take 6 rfl rfl (by kernel_rfl) (by kernel_rfl) (by kernel_rfl) (p_fieldo (off := 0) (by kernel_rfl) rfl) ?_
      refine d_only 7 rfl (by kernel_rfl) rfl (o_storeo ((IntKind.i64.wrap ((x19) - 1), z34.2)) (n := 1) (by kernel_rfl) rfl rfl hz35 rfl rfl rfl rfl (.cons .sc .nil) rfl (fun j h1 h2 => by (have : j = 0 ∨ j = 1 ∨ j = 2 ∨ j = 3 ∨ j = 4 := by omega); rcases this with rfl | rfl | rfl | rfl | rfl <;> first | rfl | (simp at h2; done))) ?_
      refine d_end (by kernel_rfl) ?_
      refine t_endblock ?_
      refine t_seq ?_
      refine t_region ?_
      refine r_op (o_loadAb rfl (n := 5) (by kernel_rfl) (by kernel_rfl) rfl rfl rfl) ?_
      refine r_op (o_storeb (n := 5) (by kernel_rfl) rfl rfl rfl rfl rfl rfl) ?_
      refine r_end ?_
      refine t_ret Tryz.func108 (.cells (n := 5) (by kernel_rfl) (by kernel_rfl) rfl rfl rfl .nil) rfl fun E S w u hI hd => ?_
      refine post_mkG (⟨((b1)).set ((0 : Int)).toNat ((IntKind.i64.wrap ((x19) - 1), z34.2)), (hs2), (e3), (lv4), (rv5), (i220), (h221)⟩) ?_ hI hd ?_ ⟨rfl, ⟨rfl, ⟨rfl, trivial⟩⟩⟩ rfl rfl <;> clear hI hd
      · (try dsimp only) <;> ((refine ⟨⟨by (simp only [List.length_set]; omega), k2, mem_set k3 (by have e8 := k3 _ (List.mem_of_getElem? hz35); exact ⟨by (try dsimp only); (try simp only [IntKind.wrap_i64] at *); omega, e8.2.1, e8.2.2⟩), k4, k5, k6⟩, by omega⟩; done))
      · rfl
  ·
    have h18' := of_decide_eq_false h18
    refine t_seq ?_
    refine t_region ?_
    refine r_op (o_bin rfl rfl rfl rfl) ?_
    refine r_op (o_assign rfl rfl) ?_
    refine r_end ?_
    refine t_cond rfl (fun h37 => ?_) (fun h37 => ?_)
    ·
      have h37' := of_decide_eq_true h37
      obtain ⟨z38, hz39, b40⟩ := at_get (xs := (b1)) (n := (0 : Int)) (by omega) (by omega)
      refine gt_takeH 11 7 ((0 : Int)).toNat 1 rfl rfl hz39 rfl rfl fun e41 v42 => ?_
      refine t_draw (fun i => !(Nat.beq i 7 || Nat.beq i 9)) (by kernel_rfl) ?_
      refine d_takeP 0 rfl rfl (by kernel_rfl) (by kernel_rfl) (by kernel_rfl) (pw_fieldb (off := 0) (by kernel_rfl) rfl) ?_
      refine d_take 5 rfl rfl (by kernel_rfl) (by kernel_rfl) (by kernel_rfl) (p_move rfl) ?_
      refine d_two 1 6 rfl rfl (by kernel_rfl) rfl rfl (o_load1b rfl (by kernel_rfl) rfl rfl rfl) (o_litN 12 (e := 3) (sz := 1) (zs := [.int .i64 (0)]) (enc := encI) [5, -11, 4] rfl rfl (by kernel_rfl) rfl rfl rfl rfl rfl rfl rfl rfl (.cons .sc (.cons .sc (.cons .sc .nil))) rfl) ?_ ?_
      ·
        obtain ⟨z43, hz44, b45⟩ := at_get (xs := holeL ((b1)) (((0 : Int)).toNat) z38 1 v42) (n := 0) (by omega) (by (rw [holeL_len]; omega))
        refine d_two 2 6 rfl rfl (by kernel_rfl) rfl rfl (o_indexo rfl (by kernel_rfl) rfl rfl rfl b45 (at_lt b45 hz44)) (o_litN 12 (e := 3) (sz := 1) (zs := [.int .i64 (0)]) (enc := encI) [5, -11, 4] rfl rfl (by kernel_rfl) rfl rfl rfl rfl rfl rfl rfl rfl (.cons .sc (.cons .sc (.cons .sc .nil))) rfl) ?_ ?_
        ·
          refine d_two 3 6 rfl rfl (by kernel_rfl) rfl rfl (o_fieldo rfl (off := 1) (by kernel_rfl) rfl) (o_litN 12 (e := 3) (sz := 1) (zs := [.int .i64 (0)]) (enc := encI) [5, -11, 4] rfl rfl (by kernel_rfl) rfl rfl rfl rfl rfl rfl rfl rfl (.cons .sc (.cons .sc (.cons .sc .nil))) rfl) ?_ ?_
          ·
            refine d_two 4 6 rfl rfl (by kernel_rfl) rfl rfl (o_loadH rfl (k := 11) (by kernel_rfl) rfl rfl rfl (by omega) rfl) (o_litN 12 (e := 3) (sz := 1) (zs := [.int .i64 (0)]) (enc := encI) [5, -11, 4] rfl rfl (by kernel_rfl) rfl rfl rfl rfl rfl rfl rfl rfl (.cons .sc (.cons .sc (.cons .sc .nil))) rfl) ?_ ?_
            ·
              refine d_only 6 rfl (by kernel_rfl) rfl (o_litN 12 (e := 3) (sz := 1) (zs := [.int .i64 (0)]) (enc := encI) [5, -11, 4] rfl rfl (by kernel_rfl) rfl rfl rfl rfl rfl rfl rfl rfl (.cons .sc (.cons .sc (.cons .sc .nil))) rfl) ?_
              refine d_freeze 12 rfl (frz_cur (i := 12) hM rfl rfl rfl) ?_
              refine d_onlyX 7 rfl (by kernel_rfl) rfl (o_callGM 0 13 14 (pv := some (v0)) (Go.Proofs.enters_of Tryz.func120 (by kernel_rfl) rfl) (c_spec_l1PickInt (((code))) ((i213)) ((h214)) ([5, -11, 4]) (by omega) (by omega) (by omega) (by (simp only [List.length_cons, List.length_nil]; omega)) (by (simp only [List.length_cons, List.length_nil]; omega))) rfl rfl (.cur rfl (.cons rfl .nil)) rfl (fun ⟨_, _, _⟩ => rfl) (fun _ => rfl) (fun ⟨_, _, _⟩ => rfl) rfl rfl) ?_
              rintro ⟨⟨x46, i247, h248⟩, hq49⟩
              try dsimp only at hq49
              try dsimp only
              obtain ⟨q50, q51⟩ := hq49
              obtain ⟨z52, hz53, b54⟩ := at_get (xs := z38.2) (n := 0) (by omega) (by (have e7 := k7 _ (by assumption); omega))
              refine d_take 8 rfl rfl (by kernel_rfl) (by kernel_rfl) (by kernel_rfl) (p_indexo (by kernel_rfl) rfl rfl rfl b54 (at_lt b54 hz53)) ?_
              refine d_only 9 rfl (by kernel_rfl) rfl (o_storeo ((x46)) (n := 1) (by kernel_rfl) rfl rfl hz53 rfl rfl rfl rfl (.cons .sc .nil) rfl (fun j h1 h2 => by simp at h1 h2; omega)) ?_
              refine d_end (by kernel_rfl) ?_
              refine t_endblock ?_
              refine t_seq ?_
              refine gt_putH 11 7 (((0 : Int)).toNat) 1 ((z38.1, (z38.2).set ((0 : Int)).toNat ((x46)))) rfl rfl rfl (List.getElem?_eq_some_iff.1 hz39).1 rfl (fun j hj => by (have : j = 0 ∨ j = 1 := by omega); rcases this with rfl | rfl <;> rfl) ?_
              refine t_region ?_
              refine r_op (o_loadAb rfl (n := 5) (by kernel_rfl) (by kernel_rfl) rfl rfl rfl) ?_
              refine r_op (o_storeb (n := 5) (by kernel_rfl) rfl rfl rfl rfl rfl rfl) ?_
              refine r_end ?_
              refine t_ret Tryz.func108 (.cells (n := 5) (by kernel_rfl) (by kernel_rfl) rfl rfl rfl .nil) rfl fun E S w u hI hd => ?_
              refine post_mkG (⟨((b1)).set (((0 : Int)).toNat) ((z38.1, (z38.2).set ((0 : Int)).toNat ((x46)))), (hs2), (e3), (lv4), (rv5), (i247), (h248)⟩) ?_ hI hd ?_ ⟨rfl, ⟨rfl, ⟨rfl, trivial⟩⟩⟩ rfl rfl <;> clear hI hd
              · (try dsimp only) <;> ((refine ⟨⟨by (simp only [List.length_set]; omega), k2, mem_set k3 (by have e8 := k3 _ (List.mem_of_getElem? hz39); exact ⟨e8.1, by (simp only [List.length_set]; exact e8.2.1), mem_set e8.2.2 (by have e9 := pick3 (by assumption); omega)⟩), k4, k5, k6⟩, by omega⟩; done))
              · rfl
            ·
              refine d_freeze 12 rfl (frz_cur (i := 12) hM rfl rfl rfl) ?_
              refine d_twoX 4 7 rfl rfl (by kernel_rfl) rfl rfl (osX (o_loadH rfl (k := 11) (by kernel_rfl) rfl rfl rfl (by omega) rfl)) (o_callGM 0 13 14 (pv := some (v0)) (Go.Proofs.enters_of Tryz.func120 (by kernel_rfl) rfl) (c_spec_l1PickInt (((code))) ((i213)) ((h214)) ([5, -11, 4]) (by omega) (by omega) (by omega) (by (simp only [List.length_cons, List.length_nil]; omega)) (by (simp only [List.length_cons, List.length_nil]; omega))) rfl rfl (.cur rfl (.cons rfl .nil)) rfl (fun ⟨_, _, _⟩ => rfl) (fun _ => rfl) (fun ⟨_, _, _⟩ => rfl) rfl rfl) ?_ ?_
              ·
                rintro ⟨⟩
                refine d_onlyX 7 rfl (by kernel_rfl) rfl (o_callGM 0 13 14 (pv := some (v0)) (Go.Proofs.enters_of Tryz.func120 (by kernel_rfl) rfl) (c_spec_l1PickInt (((code))) ((i213)) ((h214)) ([5, -11, 4]) (by omega) (by omega) (by omega) (by (simp only [List.length_cons, List.length_nil]; omega)) (by (simp only [List.length_cons, List.length_nil]; omega))) rfl rfl (.cur rfl (.cons rfl .nil)) rfl (fun ⟨_, _, _⟩ => rfl) (fun _ => rfl) (fun ⟨_, _, _⟩ => rfl) rfl rfl) ?_
                rintro ⟨⟨x61, i262, h263⟩, hq64⟩
                try dsimp only at hq64
                try dsimp only
                obtain ⟨q65, q66⟩ := hq64
                obtain ⟨z67, hz68, b69⟩ := at_get (xs := z38.2) (n := 0) (by omega) (by (have e7 := k7 _ (by assumption); omega))
                refine d_take 8 rfl rfl (by kernel_rfl) (by kernel_rfl) (by kernel_rfl) (p_indexo (by kernel_rfl) rfl rfl rfl b69 (at_lt b69 hz68)) ?_
                refine d_only 9 rfl (by kernel_rfl) rfl (o_storeo ((x61)) (n := 1) (by kernel_rfl) rfl rfl hz68 rfl rfl rfl rfl (.cons .sc .nil) rfl (fun j h1 h2 => by simp at h1 h2; omega)) ?_
                refine d_end (by kernel_rfl) ?_
                refine t_endblock ?_
                refine t_seq ?_
                refine gt_putH 11 7 (((0 : Int)).toNat) 1 ((z38.1, (z38.2).set ((0 : Int)).toNat ((x61)))) rfl rfl rfl (List.getElem?_eq_some_iff.1 hz39).1 rfl (fun j hj => by (have : j = 0 ∨ j = 1 := by omega); rcases this with rfl | rfl <;> rfl) ?_
                refine t_region ?_
                refine r_op (o_loadAb rfl (n := 5) (by kernel_rfl) (by kernel_rfl) rfl rfl rfl) ?_
                refine r_op (o_storeb (n := 5) (by kernel_rfl) rfl rfl rfl rfl rfl rfl) ?_
                refine r_end ?_
                refine t_ret Tryz.func108 (.cells (n := 5) (by kernel_rfl) (by kernel_rfl) rfl rfl rfl .nil) rfl fun E S w u hI hd => ?_
                refine post_mkG (⟨((b1)).set (((0 : Int)).toNat) ((z38.1, (z38.2).set ((0 : Int)).toNat ((x61)))), (hs2), (e3), (lv4), (rv5), (i262), (h263)⟩) ?_ hI hd ?_ ⟨rfl, ⟨rfl, ⟨rfl, trivial⟩⟩⟩ rfl rfl <;> clear hI hd
                · (try dsimp only) <;> ((refine ⟨⟨by (simp only [List.length_set]; omega), k2, mem_set k3 (by have e8 := k3 _ (List.mem_of_getElem? hz39); exact ⟨e8.1, by (simp only [List.length_set]; exact e8.2.1), mem_set e8.2.2 (by have e9 := pick3 (by assumption); omega)⟩), k4, k5, k6⟩, by omega⟩; done))
                · rfl
              ·
                rintro ⟨⟨x55, i256, h257⟩, hq58⟩
                try dsimp only at hq58
                try dsimp only
                obtain ⟨q59, q60⟩ := hq58
                refine d_take 4 rfl rfl (by kernel_rfl) (by kernel_rfl) (by kernel_rfl) (p_loadH (k := 11) (by kernel_rfl) rfl rfl rfl (by omega) rfl) ?_
                obtain ⟨z70, hz71, b72⟩ := at_get (xs := z38.2) (n := 0) (by omega) (by (have e7 := k7 _ (by assumption); omega))
                refine d_take 8 rfl rfl (by kernel_rfl) (by kernel_rfl) (by kernel_rfl) (p_indexo (by kernel_rfl) rfl rfl rfl b72 (at_lt b72 hz71)) ?_
                refine d_only 9 rfl (by kernel_rfl) rfl (o_storeo ((x55)) (n := 1) (by kernel_rfl) rfl rfl hz71 rfl rfl rfl rfl (.cons .sc .nil) rfl (fun j h1 h2 => by simp at h1 h2; omega)) ?_
                refine d_end (by kernel_rfl) ?_
                refine t_endblock ?_
                refine t_seq ?_
                refine gt_putH 11 7 (((0 : Int)).toNat) 1 ((z38.1, (z38.2).set ((0 : Int)).toNat ((x55)))) rfl rfl rfl (List.getElem?_eq_some_iff.1 hz39).1 rfl (fun j hj => by (have : j = 0 ∨ j = 1 := by omega); rcases this with rfl | rfl <;> rfl) ?_
                refine t_region ?_
                refine r_op (o_loadAb rfl (n := 5) (by kernel_rfl) (by kernel_rfl) rfl rfl rfl) ?_
                refine r_op (o_storeb (n := 5) (by kernel_rfl) rfl rfl rfl rfl rfl rfl) ?_
                refine r_end ?_
                refine t_ret Tryz.func108 (.cells (n := 5) (by kernel_rfl) (by kernel_rfl) rfl rfl rfl .nil) rfl fun E S w u hI hd => ?_
                refine post_mkG (⟨((b1)).set (((0 : Int)).toNat) ((z38.1, (z38.2).set ((0 : Int)).toNat ((x55)))), (hs2), (e3), (lv4), (rv5), (i256), (h257)⟩) ?_ hI hd ?_ ⟨rfl, ⟨rfl, ⟨rfl, trivial⟩⟩⟩ rfl rfl <;> clear hI hd
                · (try dsimp only) <;> ((refine ⟨⟨by (simp only [List.length_set]; omega), k2, mem_set k3 (by have e8 := k3 _ (List.mem_of_getElem? hz39); exact ⟨e8.1, by (simp only [List.length_set]; exact e8.2.1), mem_set e8.2.2 (by have e9 := pick3 (by assumption); omega)⟩), k4, k5, k6⟩, by omega⟩; done))
                · rfl
          ·
            refine d_freeze 12 rfl (frz_cur (i := 12) hM rfl rfl rfl) ?_
            refine d_twoX 3 7 rfl rfl (by kernel_rfl) rfl rfl (osX (o_fieldo rfl (off := 1) (by kernel_rfl) rfl)) (o_callGM 0 13 14 (pv := some (v0)) (Go.Proofs.enters_of Tryz.func120 (by kernel_rfl) rfl) (c_spec_l1PickInt (((code))) ((i213)) ((h214)) ([5, -11, 4]) (by omega) (by omega) (by omega) (by (simp only [List.length_cons, List.length_nil]; omega)) (by (simp only [List.length_cons, List.length_nil]; omega))) rfl rfl (.cur rfl (.cons rfl .nil)) rfl (fun ⟨_, _, _⟩ => rfl) (fun _ => rfl) (fun ⟨_, _, _⟩ => rfl) rfl rfl) ?_ ?_
            ·
              rintro ⟨⟩
              refine d_twoX 4 7 rfl rfl (by kernel_rfl) rfl rfl (osX (o_loadH rfl (k := 11) (by kernel_rfl) rfl rfl rfl (by omega) rfl)) (o_callGM 0 13 14 (pv := some (v0)) (Go.Proofs.enters_of Tryz.func120 (by kernel_rfl) rfl) (c_spec_l1PickInt (((code))) ((i213)) ((h214)) ([5, -11, 4]) (by omega) (by omega) (by omega) (by (simp only [List.length_cons, List.length_nil]; omega)) (by (simp only [List.length_cons, List.length_nil]; omega))) rfl rfl (.cur rfl (.cons rfl .nil)) rfl (fun ⟨_, _, _⟩ => rfl) (fun _ => rfl) (fun ⟨_, _, _⟩ => rfl) rfl rfl) ?_ ?_
              ·
                rintro ⟨⟩
                refine d_onlyX 7 rfl (by kernel_rfl) rfl (o_callGM 0 13 14 (pv := some (v0)) (Go.Proofs.enters_of Tryz.func120 (by kernel_rfl) rfl) (c_spec_l1PickInt (((code))) ((i213)) ((h214)) ([5, -11, 4]) (by omega) (by omega) (by omega) (by (simp only [List.length_cons, List.length_nil]; omega)) (by (simp only [List.length_cons, List.length_nil]; omega))) rfl rfl (.cur rfl (.cons rfl .nil)) rfl (fun ⟨_, _, _⟩ => rfl) (fun _ => rfl) (fun ⟨_, _, _⟩ => rfl) rfl rfl) ?_
                rintro ⟨⟨x85, i286, h287⟩, hq88⟩
                try dsimp only at hq88
                try dsimp only
                obtain ⟨q89, q90⟩ := hq88
                obtain ⟨z91, hz92, b93⟩ := at_get (xs := z38.2) (n := 0) (by omega) (by (have e7 := k7 _ (by assumption); omega))
                refine d_take 8 rfl rfl (by kernel_rfl) (by kernel_rfl) (by kernel_rfl) (p_indexo (by kernel_rfl) rfl rfl rfl b93 (at_lt b93 hz92)) ?_
                refine d_only 9 rfl (by kernel_rfl) rfl (o_storeo ((x85)) (n := 1) (by kernel_rfl) rfl rfl hz92 rfl rfl rfl rfl (.cons .sc .nil) rfl (fun j h1 h2 => by simp at h1 h2; omega)) ?_
                refine d_end (by kernel_rfl) ?_
                refine t_endblock ?_
                refine t_seq ?_
                refine gt_putH 11 7 (((0 : Int)).toNat) 1 ((z38.1, (z38.2).set ((0 : Int)).toNat ((x85)))) rfl rfl rfl (List.getElem?_eq_some_iff.1 hz39).1 rfl (fun j hj => by (have : j = 0 ∨ j = 1 := by omega); rcases this with rfl | rfl <;> rfl) ?_
                refine t_region ?_
                refine r_op (o_loadAb rfl (n := 5) (by kernel_rfl) (by kernel_rfl) rfl rfl rfl) ?_
                refine r_op (o_storeb (n := 5) (by kernel_rfl) rfl rfl rfl rfl rfl rfl) ?_
                refine r_end ?_
                refine t_ret Tryz.func108 (.cells (n := 5) (by kernel_rfl) (by kernel_rfl) rfl rfl rfl .nil) rfl fun E S w u hI hd => ?_
                refine post_mkG (⟨((b1)).set (((0 : Int)).toNat) ((z38.1, (z38.2).set ((0 : Int)).toNat ((x85)))), (hs2), (e3), (lv4), (rv5), (i286), (h287)⟩) ?_ hI hd ?_ ⟨rfl, ⟨rfl, ⟨rfl, trivial⟩⟩⟩ rfl rfl <;> clear hI hd
                · (try dsimp only) <;> ((refine ⟨⟨by (simp only [List.length_set]; omega), k2, mem_set k3 (by have e8 := k3 _ (List.mem_of_getElem? hz39); exact ⟨e8.1, by (simp only [List.length_set]; exact e8.2.1), mem_set e8.2.2 (by have e9 := pick3 (by assumption); omega)⟩), k4, k5, k6⟩, by omega⟩; done))
                · rfl
              ·
                rintro ⟨⟨x79, i280, h281⟩, hq82⟩
                try dsimp only at hq82
                try dsimp only
                obtain ⟨q83, q84⟩ := hq82
                refine d_take 4 rfl rfl (by kernel_rfl) (by kernel_rfl) (by kernel_rfl) (p_loadH (k := 11) (by kernel_rfl) rfl rfl rfl (by omega) rfl) ?_
                obtain ⟨z94, hz95, b96⟩ := at_get (xs := z38.2) (n := 0) (by omega) (by (have e7 := k7 _ (by assumption); omega))
                refine d_take 8 rfl rfl (by kernel_rfl) (by kernel_rfl) (by kernel_rfl) (p_indexo (by kernel_rfl) rfl rfl rfl b96 (at_lt b96 hz95)) ?_
                refine d_only 9 rfl (by kernel_rfl) rfl (o_storeo ((x79)) (n := 1) (by kernel_rfl) rfl rfl hz95 rfl rfl rfl rfl (.cons .sc .nil) rfl (fun j h1 h2 => by simp at h1 h2; omega)) ?_
                refine d_end (by kernel_rfl) ?_
                refine t_endblock ?_
                refine t_seq ?_
                refine gt_putH 11 7 (((0 : Int)).toNat) 1 ((z38.1, (z38.2).set ((0 : Int)).toNat ((x79)))) rfl rfl rfl (List.getElem?_eq_some_iff.1 hz39).1 rfl (fun j hj => by (have : j = 0 ∨ j = 1 := by omega); rcases this with rfl | rfl <;> rfl) ?_
                refine t_region ?_
                refine r_op (o_loadAb rfl (n := 5) (by kernel_rfl) (by kernel_rfl) rfl rfl rfl) ?_
                refine r_op (o_storeb (n := 5) (by kernel_rfl) rfl rfl rfl rfl rfl rfl) ?_
                refine r_end ?_
                refine t_ret Tryz.func108 (.cells (n := 5) (by kernel_rfl) (by kernel_rfl) rfl rfl rfl .nil) rfl fun E S w u hI hd => ?_
                refine post_mkG (⟨((b1)).set (((0 : Int)).toNat) ((z38.1, (z38.2).set ((0 : Int)).toNat ((x79)))), (hs2), (e3), (lv4), (rv5), (i280), (h281)⟩) ?_ hI hd ?_ ⟨rfl, ⟨rfl, ⟨rfl, trivial⟩⟩⟩ rfl rfl <;> clear hI hd
                · (try dsimp only) <;> ((refine ⟨⟨by (simp only [List.length_set]; omega), k2, mem_set k3 (by have e8 := k3 _ (List.mem_of_getElem? hz39); exact ⟨e8.1, by (simp only [List.length_set]; exact e8.2.1), mem_set e8.2.2 (by have e9 := pick3 (by assumption); omega)⟩), k4, k5, k6⟩, by omega⟩; done))
                · rfl
            ·
              rintro ⟨⟨x73, i274, h275⟩, hq76⟩
              try dsimp only at hq76
              try dsimp only
              obtain ⟨q77, q78⟩ := hq76
              refine d_take 3 rfl rfl (by kernel_rfl) (by kernel_rfl) (by kernel_rfl) (p_fieldo (off := 1) (by kernel_rfl) rfl) ?_
              refine d_take 4 rfl rfl (by kernel_rfl) (by kernel_rfl) (by kernel_rfl) (p_loadH (k := 11) (by kernel_rfl) rfl rfl rfl (by omega) rfl) ?_
              obtain ⟨z97, hz98, b99⟩ := at_get (xs := z38.2) (n := 0) (by omega) (by (have e7 := k7 _ (by assumption); omega))
              refine d_take 8 rfl rfl (by kernel_rfl) (by kernel_rfl) (by kernel_rfl) (p_indexo (by kernel_rfl) rfl rfl rfl b99 (at_lt b99 hz98)) ?_
              refine d_only 9 rfl (by kernel_rfl) rfl (o_storeo ((x73)) (n := 1) (by kernel_rfl) rfl rfl hz98 rfl rfl rfl rfl (.cons .sc .nil) rfl (fun j h1 h2 => by simp at h1 h2; omega)) ?_
              refine d_end (by kernel_rfl) ?_
              refine t_endblock ?_
              refine t_seq ?_
              refine gt_putH 11 7 (((0 : Int)).toNat) 1 ((z38.1, (z38.2).set ((0 : Int)).toNat ((x73)))) rfl rfl rfl (List.getElem?_eq_some_iff.1 hz39).1 rfl (fun j hj => by (have : j = 0 ∨ j = 1 := by omega); rcases this with rfl | rfl <;> rfl) ?_
              refine t_region ?_
              refine r_op (o_loadAb rfl (n := 5) (by kernel_rfl) (by kernel_rfl) rfl rfl rfl) ?_
              refine r_op (o_storeb (n := 5) (by kernel_rfl) rfl rfl rfl rfl rfl rfl) ?_
              refine r_end ?_
              refine t_ret Tryz.func108 (.cells (n := 5) (by kernel_rfl) (by kernel_rfl) rfl rfl rfl .nil) rfl fun E S w u hI hd => ?_
              refine post_mkG (⟨((b1)).set (((0 : Int)).toNat) ((z38.1, (z38.2).set ((0 : Int)).toNat ((x73)))), (hs2), (e3), (lv4), (rv5), (i274), (h275)⟩) ?_ hI hd ?_ ⟨rfl, ⟨rfl, ⟨rfl, trivial⟩⟩⟩ rfl rfl <;> clear hI hd
              · (try dsimp only) <;> ((refine ⟨⟨by (simp only [List.length_set]; omega), k2, mem_set k3 (by have e8 := k3 _ (List.mem_of_getElem? hz39); exact ⟨e8.1, by (simp only [List.length_set]; exact e8.2.1), mem_set e8.2.2 (by have e9 := pick3 (by assumption); omega)⟩), k4, k5, k6⟩, by omega⟩; done))
              · rfl
        ·
          refine d_freeze 12 rfl (frz_cur (i := 12) hM rfl rfl rfl) ?_
          obtain ⟨z100, hz101, b102⟩ := at_get (xs := holeL ((b1)) (((0 : Int)).toNat) z38 1 v42) (n := 0) (by omega) (by (rw [holeL_len]; omega))
          refine d_twoX 2 7 rfl rfl (by kernel_rfl) rfl rfl (osX (o_indexo rfl (by kernel_rfl) rfl rfl rfl b102 (at_lt b102 hz101))) (o_callGM 0 13 14 (pv := some (v0)) (Go.Proofs.enters_of Tryz.func120 (by kernel_rfl) rfl) (c_spec_l1PickInt (((code))) ((i213)) ((h214)) ([5, -11, 4]) (by omega) (by omega) (by omega) (by (simp only [List.length_cons, List.length_nil]; omega)) (by (simp only [List.length_cons, List.length_nil]; omega))) rfl rfl (.cur rfl (.cons rfl .nil)) rfl (fun ⟨_, _, _⟩ => rfl) (fun _ => rfl) (fun ⟨_, _, _⟩ => rfl) rfl rfl) ?_ ?_
          ·
            rintro ⟨⟩
            refine d_twoX 3 7 rfl rfl (by kernel_rfl) rfl rfl (osX (o_fieldo rfl (off := 1) (by kernel_rfl) rfl)) (o_callGM 0 13 14 (pv := some (v0)) (Go.Proofs.enters_of Tryz.func120 (by kernel_rfl) rfl) (c_spec_l1PickInt (((code))) ((i213)) ((h214)) ([5, -11, 4]) (by omega) (by omega) (by omega) (by (simp only [List.length_cons, List.length_nil]; omega)) (by (simp only [List.length_cons, List.length_nil]; omega))) rfl rfl (.cur rfl (.cons rfl .nil)) rfl (fun ⟨_, _, _⟩ => rfl) (fun _ => rfl) (fun ⟨_, _, _⟩ => rfl) rfl rfl) ?_ ?_
            ·
              rintro ⟨⟩
              refine d_twoX 4 7 rfl rfl (by kernel_rfl) rfl rfl (osX (o_loadH rfl (k := 11) (by kernel_rfl) rfl rfl rfl (by omega) rfl)) (o_callGM 0 13 14 (pv := some (v0)) (Go.Proofs.enters_of Tryz.func120 (by kernel_rfl) rfl) (c_spec_l1PickInt (((code))) ((i213)) ((h214)) ([5, -11, 4]) (by omega) (by omega) (by omega) (by (simp only [List.length_cons, List.length_nil]; omega)) (by (simp only [List.length_cons, List.length_nil]; omega))) rfl rfl (.cur rfl (.cons rfl .nil)) rfl (fun ⟨_, _, _⟩ => rfl) (fun _ => rfl) (fun ⟨_, _, _⟩ => rfl) rfl rfl) ?_ ?_
              ·
                rintro ⟨⟩
                refine d_onlyX 7 rfl (by kernel_rfl) rfl (o_callGM 0 13 14 (pv := some (v0)) (Go.Proofs.enters_of Tryz.func120 (by kernel_rfl) rfl) (c_spec_l1PickInt (((code))) ((i213)) ((h214)) ([5, -11, 4]) (by omega) (by omega) (by omega) (by (simp only [List.length_cons, List.length_nil]; omega)) (by (simp only [List.length_cons, List.length_nil]; omega))) rfl rfl (.cur rfl (.cons rfl .nil)) rfl (fun ⟨_, _, _⟩ => rfl) (fun _ => rfl) (fun ⟨_, _, _⟩ => rfl) rfl rfl) ?_
                rintro ⟨⟨x121, i2122, h2123⟩, hq124⟩
                try dsimp only at hq124
                try dsimp only
                obtain ⟨q125, q126⟩ := hq124
                obtain ⟨z127, hz128, b129⟩ := at_get (xs := z38.2) (n := 0) (by omega) (by (have e7 := k7 _ (by assumption); omega))
                refine d_take 8 rfl rfl (by kernel_rfl) (by kernel_rfl) (by kernel_rfl) (p_indexo (by kernel_rfl) rfl rfl rfl b129 (at_lt b129 hz128)) ?_
                refine d_only 9 rfl (by kernel_rfl) rfl (o_storeo ((x121)) (n := 1) (by kernel_rfl) rfl rfl hz128 rfl rfl rfl rfl (.cons .sc .nil) rfl (fun j h1 h2 => by simp at h1 h2; omega)) ?_
                refine d_end (by kernel_rfl) ?_
                refine t_endblock ?_
                refine t_seq ?_
                refine gt_putH 11 7 (((0 : Int)).toNat) 1 ((z38.1, (z38.2).set ((0 : Int)).toNat ((x121)))) rfl rfl rfl (List.getElem?_eq_some_iff.1 hz39).1 rfl (fun j hj => by (have : j = 0 ∨ j = 1 := by omega); rcases this with rfl | rfl <;> rfl) ?_
                refine t_region ?_
                refine r_op (o_loadAb rfl (n := 5) (by kernel_rfl) (by kernel_rfl) rfl rfl rfl) ?_
                refine r_op (o_storeb (n := 5) (by kernel_rfl) rfl rfl rfl rfl rfl rfl) ?_
                refine r_end ?_
                refine t_ret Tryz.func108 (.cells (n := 5) (by kernel_rfl) (by kernel_rfl) rfl rfl rfl .nil) rfl fun E S w u hI hd => ?_
                refine post_mkG (⟨((b1)).set (((0 : Int)).toNat) ((z38.1, (z38.2).set ((0 : Int)).toNat ((x121)))), (hs2), (e3), (lv4), (rv5), (i2122), (h2123)⟩) ?_ hI hd ?_ ⟨rfl, ⟨rfl, ⟨rfl, trivial⟩⟩⟩ rfl rfl <;> clear hI hd
                · (try dsimp only) <;> ((refine ⟨⟨by (simp only [List.length_set]; omega), k2, mem_set k3 (by have e8 := k3 _ (List.mem_of_getElem? hz39); exact ⟨e8.1, by (simp only [List.length_set]; exact e8.2.1), mem_set e8.2.2 (by have e9 := pick3 (by assumption); omega)⟩), k4, k5, k6⟩, by omega⟩; done))
                · rfl
              ·
                rintro ⟨⟨x115, i2116, h2117⟩, hq118⟩
                try dsimp only at hq118
                try dsimp only
                obtain ⟨q119, q120⟩ := hq118
                refine d_take 4 rfl rfl (by kernel_rfl) (by kernel_rfl) (by kernel_rfl) (p_loadH (k := 11) (by kernel_rfl) rfl rfl rfl (by omega) rfl) ?_
                obtain ⟨z130, hz131, b132⟩ := at_get (xs := z38.2) (n := 0) (by omega) (by (have e7 := k7 _ (by assumption); omega))
                refine d_take 8 rfl rfl (by kernel_rfl) (by kernel_rfl) (by kernel_rfl) (p_indexo (by kernel_rfl) rfl rfl rfl b132 (at_lt b132 hz131)) ?_
                refine d_only 9 rfl (by kernel_rfl) rfl (o_storeo ((x115)) (n := 1) (by kernel_rfl) rfl rfl hz131 rfl rfl rfl rfl (.cons .sc .nil) rfl (fun j h1 h2 => by simp at h1 h2; omega)) ?_
                refine d_end (by kernel_rfl) ?_
                refine t_endblock ?_
                refine t_seq ?_
                refine gt_putH 11 7 (((0 : Int)).toNat) 1 ((z38.1, (z38.2).set ((0 : Int)).toNat ((x115)))) rfl rfl rfl (List.getElem?_eq_some_iff.1 hz39).1 rfl (fun j hj => by (have : j = 0 ∨ j = 1 := by omega); rcases this with rfl | rfl <;> rfl) ?_
                refine t_region ?_
                refine r_op (o_loadAb rfl (n := 5) (by kernel_rfl) (by kernel_rfl) rfl rfl rfl) ?_
                refine r_op (o_storeb (n := 5) (by kernel_rfl) rfl rfl rfl rfl rfl rfl) ?_
                refine r_end ?_
                refine t_ret Tryz.func108 (.cells (n := 5) (by kernel_rfl) (by kernel_rfl) rfl rfl rfl .nil) rfl fun E S w u hI hd => ?_
                refine post_mkG (⟨((b1)).set (((0 : Int)).toNat) ((z38.1, (z38.2).set ((0 : Int)).toNat ((x115)))), (hs2), (e3), (lv4), (rv5), (i2116), (h2117)⟩) ?_ hI hd ?_ ⟨rfl, ⟨rfl, ⟨rfl, trivial⟩⟩⟩ rfl rfl <;> clear hI hd
                · (try dsimp only) <;> ((refine ⟨⟨by (simp only [List.length_set]; omega), k2, mem_set k3 (by have e8 := k3 _ (List.mem_of_getElem? hz39); exact ⟨e8.1, by (simp only [List.length_set]; exact e8.2.1), mem_set e8.2.2 (by have e9 := pick3 (by assumption); omega)⟩), k4, k5, k6⟩, by omega⟩; done))
                · rfl
            ·
              rintro ⟨⟨x109, i2110, h2111⟩, hq112⟩
              try dsimp only at hq112
              try dsimp only
              obtain ⟨q113, q114⟩ := hq112
              refine d_take 3 rfl rfl (by kernel_rfl) (by kernel_rfl) (by kernel_rfl) (p_fieldo (off := 1) (by kernel_rfl) rfl) ?_
              refine d_take 4 rfl rfl (by kernel_rfl) (by kernel_rfl) (by kernel_rfl) (p_loadH (k := 11) (by kernel_rfl) rfl rfl rfl (by omega) rfl) ?_
              obtain ⟨z133, hz134, b135⟩ := at_get (xs := z38.2) (n := 0) (by omega) (by (have e7 := k7 _ (by assumption); omega))
              refine d_take 8 rfl rfl (by kernel_rfl) (by kernel_rfl) (by kernel_rfl) (p_indexo (by kernel_rfl) rfl rfl rfl b135 (at_lt b135 hz134)) ?_
              refine d_only 9 rfl (by kernel_rfl) rfl (o_storeo ((x109)) (n := 1) (by kernel_rfl) rfl rfl hz134 rfl rfl rfl rfl (.cons .sc .nil) rfl (fun j h1 h2 => by simp at h1 h2; omega)) ?_
              refine d_end (by kernel_rfl) ?_
              refine t_endblock ?_
              refine t_seq ?_
              refine gt_putH 11 7 (((0 : Int)).toNat) 1 ((z38.1, (z38.2).set ((0 : Int)).toNat ((x109)))) rfl rfl rfl (List.getElem?_eq_some_iff.1 hz39).1 rfl (fun j hj => by (have : j = 0 ∨ j = 1 := by omega); rcases this with rfl | rfl <;> rfl) ?_
              refine t_region ?_
              refine r_op (o_loadAb rfl (n := 5) (by kernel_rfl) (by kernel_rfl) rfl rfl rfl) ?_
              refine r_op (o_storeb (n := 5) (by kernel_rfl) rfl rfl rfl rfl rfl rfl) ?_
              refine r_end ?_
              refine t_ret Tryz.func108 (.cells (n := 5) (by kernel_rfl) (by kernel_rfl) rfl rfl rfl .nil) rfl fun E S w u hI hd => ?_
              refine post_mkG (⟨((b1)).set (((0 : Int)).toNat) ((z38.1, (z38.2).set ((0 : Int)).toNat ((x109)))), (hs2), (e3), (lv4), (rv5), (i2110), (h2111)⟩) ?_ hI hd ?_ ⟨rfl, ⟨rfl, ⟨rfl, trivial⟩⟩⟩ rfl rfl <;> clear hI hd
              · (try dsimp only) <;> ((refine ⟨⟨by (simp only [List.length_set]; omega), k2, mem_set k3 (by have e8 := k3 _ (List.mem_of_getElem? hz39); exact ⟨e8.1, by (simp only [List.length_set]; exact e8.2.1), mem_set e8.2.2 (by have e9 := pick3 (by assumption); omega)⟩), k4, k5, k6⟩, by omega⟩; done))
              · rfl
          ·
            rintro ⟨⟨x103, i2104, h2105⟩, hq106⟩
            try dsimp only at hq106
            try dsimp only
            obtain ⟨q107, q108⟩ := hq106
            obtain ⟨z136, hz137, b138⟩ := at_get (xs := holeL ((b1)) (((0 : Int)).toNat) z38 1 v42) (n := 0) (by omega) (by (rw [holeL_len]; omega))
            refine d_take 2 rfl rfl (by kernel_rfl) (by kernel_rfl) (by kernel_rfl) (p_indexo (by kernel_rfl) rfl rfl rfl b138 (at_lt b138 hz137)) ?_
            refine d_take 3 rfl rfl (by kernel_rfl) (by kernel_rfl) (by kernel_rfl) (p_fieldo (off := 1) (by kernel_rfl) rfl) ?_
            refine d_take 4 rfl rfl (by kernel_rfl) (by kernel_rfl) (by kernel_rfl) (p_loadH (k := 11) (by kernel_rfl) rfl rfl rfl (by omega) rfl) ?_
            obtain ⟨z139, hz140, b141⟩ := at_get (xs := z38.2) (n := 0) (by omega) (by (have e7 := k7 _ (by assumption); omega))
            refine d_take 8 rfl rfl (by kernel_rfl) (by kernel_rfl) (by kernel_rfl) (p_indexo (by kernel_rfl) rfl rfl rfl b141 (at_lt b141 hz140)) ?_
            refine d_only 9 rfl (by kernel_rfl) rfl (o_storeo ((x103)) (n := 1) (by kernel_rfl) rfl rfl hz140 rfl rfl rfl rfl (.cons .sc .nil) rfl (fun j h1 h2 => by simp at h1 h2; omega)) ?_
            refine d_end (by kernel_rfl) ?_
            refine t_endblock ?_
            refine t_seq ?_
            refine gt_putH 11 7 (((0 : Int)).toNat) 1 ((z38.1, (z38.2).set ((0 : Int)).toNat ((x103)))) rfl rfl rfl (List.getElem?_eq_some_iff.1 hz39).1 rfl (fun j hj => by (have : j = 0 ∨ j = 1 := by omega); rcases this with rfl | rfl <;> rfl) ?_
            refine t_region ?_
            refine r_op (o_loadAb rfl (n := 5) (by kernel_rfl) (by kernel_rfl) rfl rfl rfl) ?_
            refine r_op (o_storeb (n := 5) (by kernel_rfl) rfl rfl rfl rfl rfl rfl) ?_
            refine r_end ?_
            refine t_ret Tryz.func108 (.cells (n := 5) (by kernel_rfl) (by kernel_rfl) rfl rfl rfl .nil) rfl fun E S w u hI hd => ?_
            refine post_mkG (⟨((b1)).set (((0 : Int)).toNat) ((z38.1, (z38.2).set ((0 : Int)).toNat ((x103)))), (hs2), (e3), (lv4), (rv5), (i2104), (h2105)⟩) ?_ hI hd ?_ ⟨rfl, ⟨rfl, ⟨rfl, trivial⟩⟩⟩ rfl rfl <;> clear hI hd
            · (try dsimp only) <;> ((refine ⟨⟨by (simp only [List.length_set]; omega), k2, mem_set k3 (by have e8 := k3 _ (List.mem_of_getElem? hz39); exact ⟨e8.1, by (simp only [List.length_set]; exact e8.2.1), mem_set e8.2.2 (by have e9 := pick3 (by assumption); omega)⟩), k4, k5, k6⟩, by omega⟩; done))
            · rfl
      ·
        refine d_freeze 12 rfl (frz_cur (i := 12) hM rfl rfl rfl) ?_
        refine d_twoX 1 7 rfl rfl (by kernel_rfl) rfl rfl (osX (o_load1b rfl (by kernel_rfl) rfl rfl rfl)) (o_callGM 0 13 14 (pv := some (v0)) (Go.Proofs.enters_of Tryz.func120 (by kernel_rfl) rfl) (c_spec_l1PickInt (((code))) ((i213)) ((h214)) ([5, -11, 4]) (by omega) (by omega) (by omega) (by (simp only [List.length_cons, List.length_nil]; omega)) (by (simp only [List.length_cons, List.length_nil]; omega))) rfl rfl (.cur rfl (.cons rfl .nil)) rfl (fun ⟨_, _, _⟩ => rfl) (fun _ => rfl) (fun ⟨_, _, _⟩ => rfl) rfl rfl) ?_ ?_
        ·
          rintro ⟨⟩
          obtain ⟨z148, hz149, b150⟩ := at_get (xs := holeL ((b1)) (((0 : Int)).toNat) z38 1 v42) (n := 0) (by omega) (by (rw [holeL_len]; omega))
          refine d_twoX 2 7 rfl rfl (by kernel_rfl) rfl rfl (osX (o_indexo rfl (by kernel_rfl) rfl rfl rfl b150 (at_lt b150 hz149))) (o_callGM 0 13 14 (pv := some (v0)) (Go.Proofs.enters_of Tryz.func120 (by kernel_rfl) rfl) (c_spec_l1PickInt (((code))) ((i213)) ((h214)) ([5, -11, 4]) (by omega) (by omega) (by omega) (by (simp only [List.length_cons, List.length_nil]; omega)) (by (simp only [List.length_cons, List.length_nil]; omega))) rfl rfl (.cur rfl (.cons rfl .nil)) rfl (fun ⟨_, _, _⟩ => rfl) (fun _ => rfl) (fun ⟨_, _, _⟩ => rfl) rfl rfl) ?_ ?_
          ·
            rintro ⟨⟩
            refine d_twoX 3 7 rfl rfl (by kernel_rfl) rfl rfl (osX (o_fieldo rfl (off := 1) (by kernel_rfl) rfl)) (o_callGM 0 13 14 (pv := some (v0)) (Go.Proofs.enters_of Tryz.func120 (by kernel_rfl) rfl) (c_spec_l1PickInt (((code))) ((i213)) ((h214)) ([5, -11, 4]) (by omega) (by omega) (by omega) (by (simp only [List.length_cons, List.length_nil]; omega)) (by (simp only [List.length_cons, List.length_nil]; omega))) rfl rfl (.cur rfl (.cons rfl .nil)) rfl (fun ⟨_, _, _⟩ => rfl) (fun _ => rfl) (fun ⟨_, _, _⟩ => rfl) rfl rfl) ?_ ?_
            ·
              rintro ⟨⟩
              refine d_twoX 4 7 rfl rfl (by kernel_rfl) rfl rfl (osX (o_loadH rfl (k := 11) (by kernel_rfl) rfl rfl rfl (by omega) rfl)) (o_callGM 0 13 14 (pv := some (v0)) (Go.Proofs.enters_of Tryz.func120 (by kernel_rfl) rfl) (c_spec_l1PickInt (((code))) ((i213)) ((h214)) ([5, -11, 4]) (by omega) (by omega) (by omega) (by (simp only [List.length_cons, List.length_nil]; omega)) (by (simp only [List.length_cons, List.length_nil]; omega))) rfl rfl (.cur rfl (.cons rfl .nil)) rfl (fun ⟨_, _, _⟩ => rfl) (fun _ => rfl) (fun ⟨_, _, _⟩ => rfl) rfl rfl) ?_ ?_
              ·
                rintro ⟨⟩
                refine d_onlyX 7 rfl (by kernel_rfl) rfl (o_callGM 0 13 14 (pv := some (v0)) (Go.Proofs.enters_of Tryz.func120 (by kernel_rfl) rfl) (c_spec_l1PickInt (((code))) ((i213)) ((h214)) ([5, -11, 4]) (by omega) (by omega) (by omega) (by (simp only [List.length_cons, List.length_nil]; omega)) (by (simp only [List.length_cons, List.length_nil]; omega))) rfl rfl (.cur rfl (.cons rfl .nil)) rfl (fun ⟨_, _, _⟩ => rfl) (fun _ => rfl) (fun ⟨_, _, _⟩ => rfl) rfl rfl) ?_
                rintro ⟨⟨x169, i2170, h2171⟩, hq172⟩
                try dsimp only at hq172
                try dsimp only
                obtain ⟨q173, q174⟩ := hq172
                obtain ⟨z175, hz176, b177⟩ := at_get (xs := z38.2) (n := 0) (by omega) (by (have e7 := k7 _ (by assumption); omega))
                refine d_take 8 rfl rfl (by kernel_rfl) (by kernel_rfl) (by kernel_rfl) (p_indexo (by kernel_rfl) rfl rfl rfl b177 (at_lt b177 hz176)) ?_
                refine d_only 9 rfl (by kernel_rfl) rfl (o_storeo ((x169)) (n := 1) (by kernel_rfl) rfl rfl hz176 rfl rfl rfl rfl (.cons .sc .nil) rfl (fun j h1 h2 => by simp at h1 h2; omega)) ?_
                refine d_end (by kernel_rfl) ?_
                refine t_endblock ?_
                refine t_seq ?_
                refine gt_putH 11 7 (((0 : Int)).toNat) 1 ((z38.1, (z38.2).set ((0 : Int)).toNat ((x169)))) rfl rfl rfl (List.getElem?_eq_some_iff.1 hz39).1 rfl (fun j hj => by (have : j = 0 ∨ j = 1 := by omega); rcases this with rfl | rfl <;> rfl) ?_
                refine t_region ?_
                refine r_op (o_loadAb rfl (n := 5) (by kernel_rfl) (by kernel_rfl) rfl rfl rfl) ?_
                refine r_op (o_storeb (n := 5) (by kernel_rfl) rfl rfl rfl rfl rfl rfl) ?_
                refine r_end ?_
                refine t_ret Tryz.func108 (.cells (n := 5) (by kernel_rfl) (by kernel_rfl) rfl rfl rfl .nil) rfl fun E S w u hI hd => ?_
                refine post_mkG (⟨((b1)).set (((0 : Int)).toNat) ((z38.1, (z38.2).set ((0 : Int)).toNat ((x169)))), (hs2), (e3), (lv4), (rv5), (i2170), (h2171)⟩) ?_ hI hd ?_ ⟨rfl, ⟨rfl, ⟨rfl, trivial⟩⟩⟩ rfl rfl <;> clear hI hd
                · (try dsimp only) <;> ((refine ⟨⟨by (simp only [List.length_set]; omega), k2, mem_set k3 (by have e8 := k3 _ (List.mem_of_getElem? hz39); exact ⟨e8.1, by (simp only [List.length_set]; exact e8.2.1), mem_set e8.2.2 (by have e9 := pick3 (by assumption); omega)⟩), k4, k5, k6⟩, by omega⟩; done))
                · rfl
              ·
                rintro ⟨⟨x163, i2164, h2165⟩, hq166⟩
                try dsimp only at hq166
                try dsimp only
                obtain ⟨q167, q168⟩ := hq166
                refine d_take 4 rfl rfl (by kernel_rfl) (by kernel_rfl) (by kernel_rfl) (p_loadH (k := 11) (by kernel_rfl) rfl rfl rfl (by omega) rfl) ?_
                obtain ⟨z178, hz179, b180⟩ := at_get (xs := z38.2) (n := 0) (by omega) (by (have e7 := k7 _ (by assumption); omega))
                refine d_take 8 rfl rfl (by kernel_rfl) (by kernel_rfl) (by kernel_rfl) (p_indexo (by kernel_rfl) rfl rfl rfl b180 (at_lt b180 hz179)) ?_
                refine d_only 9 rfl (by kernel_rfl) rfl (o_storeo ((x163)) (n := 1) (by kernel_rfl) rfl rfl hz179 rfl rfl rfl rfl (.cons .sc .nil) rfl (fun j h1 h2 => by simp at h1 h2; omega)) ?_
                refine d_end (by kernel_rfl) ?_
                refine t_endblock ?_
                refine t_seq ?_
                refine gt_putH 11 7 (((0 : Int)).toNat) 1 ((z38.1, (z38.2).set ((0 : Int)).toNat ((x163)))) rfl rfl rfl (List.getElem?_eq_some_iff.1 hz39).1 rfl (fun j hj => by (have : j = 0 ∨ j = 1 := by omega); rcases this with rfl | rfl <;> rfl) ?_
                refine t_region ?_
                refine r_op (o_loadAb rfl (n := 5) (by kernel_rfl) (by kernel_rfl) rfl rfl rfl) ?_
                refine r_op (o_storeb (n := 5) (by kernel_rfl) rfl rfl rfl rfl rfl rfl) ?_
                refine r_end ?_
                refine t_ret Tryz.func108 (.cells (n := 5) (by kernel_rfl) (by kernel_rfl) rfl rfl rfl .nil) rfl fun E S w u hI hd => ?_
                refine post_mkG (⟨((b1)).set (((0 : Int)).toNat) ((z38.1, (z38.2).set ((0 : Int)).toNat ((x163)))), (hs2), (e3), (lv4), (rv5), (i2164), (h2165)⟩) ?_ hI hd ?_ ⟨rfl, ⟨rfl, ⟨rfl, trivial⟩⟩⟩ rfl rfl <;> clear hI hd
                · (try dsimp only) <;> ((refine ⟨⟨by (simp only [List.length_set]; omega), k2, mem_set k3 (by have e8 := k3 _ (List.mem_of_getElem? hz39); exact ⟨e8.1, by (simp only [List.length_set]; exact e8.2.1), mem_set e8.2.2 (by have e9 := pick3 (by assumption); omega)⟩), k4, k5, k6⟩, by omega⟩; done))
                · rfl
            ·
              rintro ⟨⟨x157, i2158, h2159⟩, hq160⟩
              try dsimp only at hq160
              try dsimp only
              obtain ⟨q161, q162⟩ := hq160
              refine d_take 3 rfl rfl (by kernel_rfl) (by kernel_rfl) (by kernel_rfl) (p_fieldo (off := 1) (by kernel_rfl) rfl) ?_
              refine d_take 4 rfl rfl (by kernel_rfl) (by kernel_rfl) (by kernel_rfl) (p_loadH (k := 11) (by kernel_rfl) rfl rfl rfl (by omega) rfl) ?_
              obtain ⟨z181, hz182, b183⟩ := at_get (xs := z38.2) (n := 0) (by omega) (by (have e7 := k7 _ (by assumption); omega))
              refine d_take 8 rfl rfl (by kernel_rfl) (by kernel_rfl) (by kernel_rfl) (p_indexo (by kernel_rfl) rfl rfl rfl b183 (at_lt b183 hz182)) ?_
              refine d_only 9 rfl (by kernel_rfl) rfl (o_storeo ((x157)) (n := 1) (by kernel_rfl) rfl rfl hz182 rfl rfl rfl rfl (.cons .sc .nil) rfl (fun j h1 h2 => by simp at h1 h2; omega)) ?_
              refine d_end (by kernel_rfl) ?_
              refine t_endblock ?_
              refine t_seq ?_
              refine gt_putH 11 7 (((0 : Int)).toNat) 1 ((z38.1, (z38.2).set ((0 : Int)).toNat ((x157)))) rfl rfl rfl (List.getElem?_eq_some_iff.1 hz39).1 rfl (fun j hj => by (have : j = 0 ∨ j = 1 := by omega); rcases this with rfl | rfl <;> rfl) ?_
              refine t_region ?_
              refine r_op (o_loadAb rfl (n := 5) (by kernel_rfl) (by kernel_rfl) rfl rfl rfl) ?_
              refine r_op (o_storeb (n := 5) (by kernel_rfl) rfl rfl rfl rfl rfl rfl) ?_
              refine r_end ?_
              refine t_ret Tryz.func108 (.cells (n := 5) (by kernel_rfl) (by kernel_rfl) rfl rfl rfl .nil) rfl fun E S w u hI hd => ?_
              refine post_mkG (⟨((b1)).set (((0 : Int)).toNat) ((z38.1, (z38.2).set ((0 : Int)).toNat ((x157)))), (hs2), (e3), (lv4), (rv5), (i2158), (h2159)⟩) ?_ hI hd ?_ ⟨rfl, ⟨rfl, ⟨rfl, trivial⟩⟩⟩ rfl rfl <;> clear hI hd
              · (try dsimp only) <;> ((refine ⟨⟨by (simp only [List.length_set]; omega), k2, mem_set k3 (by have e8 := k3 _ (List.mem_of_getElem? hz39); exact ⟨e8.1, by (simp only [List.length_set]; exact e8.2.1), mem_set e8.2.2 (by have e9 := pick3 (by assumption); omega)⟩), k4, k5, k6⟩, by omega⟩; done))
              · rfl
          ·
            rintro ⟨⟨x151, i2152, h2153⟩, hq154⟩
            try dsimp only at hq154
            try dsimp only
            obtain ⟨q155, q156⟩ := hq154
            obtain ⟨z184, hz185, b186⟩ := at_get (xs := holeL ((b1)) (((0 : Int)).toNat) z38 1 v42) (n := 0) (by omega) (by (rw [holeL_len]; omega))
            refine d_take 2 rfl rfl (by kernel_rfl) (by kernel_rfl) (by kernel_rfl) (p_indexo (by kernel_rfl) rfl rfl rfl b186 (at_lt b186 hz185)) ?_
            refine d_take 3 rfl rfl (by kernel_rfl) (by kernel_rfl) (by kernel_rfl) (p_fieldo (off := 1) (by kernel_rfl) rfl) ?_
            refine d_take 4 rfl rfl (by kernel_rfl) (by kernel_rfl) (by kernel_rfl) (p_loadH (k := 11) (by kernel_rfl) rfl rfl rfl (by omega) rfl) ?_
            obtain ⟨z187, hz188, b189⟩ := at_get (xs := z38.2) (n := 0) (by omega) (by (have e7 := k7 _ (by assumption); omega))
            refine d_take 8 rfl rfl (by kernel_rfl) (by kernel_rfl) (by kernel_rfl) (p_indexo (by kernel_rfl) rfl rfl rfl b189 (at_lt b189 hz188)) ?_
            refine d_only 9 rfl (by kernel_rfl) rfl (o_storeo ((x151)) (n := 1) (by kernel_rfl) rfl rfl hz188 rfl rfl rfl rfl (.cons .sc .nil) rfl (fun j h1 h2 => by simp at h1 h2; omega)) ?_
            refine d_end (by kernel_rfl) ?_
            refine t_endblock ?_
            refine t_seq ?_
            refine gt_putH 11 7 (((0 : Int)).toNat) 1 ((z38.1, (z38.2).set ((0 : Int)).toNat ((x151)))) rfl rfl rfl (List.getElem?_eq_some_iff.1 hz39).1 rfl (fun j hj => by (have : j = 0 ∨ j = 1 := by omega); rcases this with rfl | rfl <;> rfl) ?_
            refine t_region ?_
            refine r_op (o_loadAb rfl (n := 5) (by kernel_rfl) (by kernel_rfl) rfl rfl rfl) ?_
            refine r_op (o_storeb (n := 5) (by kernel_rfl) rfl rfl rfl rfl rfl rfl) ?_
            refine r_end ?_
            refine t_ret Tryz.func108 (.cells (n := 5) (by kernel_rfl) (by kernel_rfl) rfl rfl rfl .nil) rfl fun E S w u hI hd => ?_
            refine post_mkG (⟨((b1)).set (((0 : Int)).toNat) ((z38.1, (z38.2).set ((0 : Int)).toNat ((x151)))), (hs2), (e3), (lv4), (rv5), (i2152), (h2153)⟩) ?_ hI hd ?_ ⟨rfl, ⟨rfl, ⟨rfl, trivial⟩⟩⟩ rfl rfl <;> clear hI hd
            · (try dsimp only) <;> ((refine ⟨⟨by (simp only [List.length_set]; omega), k2, mem_set k3 (by have e8 := k3 _ (List.mem_of_getElem? hz39); exact ⟨e8.1, by (simp only [List.length_set]; exact e8.2.1), mem_set e8.2.2 (by have e9 := pick3 (by assumption); omega)⟩), k4, k5, k6⟩, by omega⟩; done))
            · rfl
        ·
          rintro ⟨⟨x142, i2143, h2144⟩, hq145⟩
          try dsimp only at hq145
          try dsimp only
          obtain ⟨q146, q147⟩ := hq145
          refine d_take 1 rfl rfl (by kernel_rfl) (by kernel_rfl) (by kernel_rfl) (p_load1b (by kernel_rfl) rfl rfl rfl) ?_
          obtain ⟨z190, hz191, b192⟩ := at_get (xs := holeL ((b1)) (((0 : Int)).toNat) z38 1 v42) (n := 0) (by omega) (by (rw [holeL_len]; omega))
          refine d_take 2 rfl rfl (by kernel_rfl) (by kernel_rfl) (by kernel_rfl) (p_indexo (by kernel_rfl) rfl rfl rfl b192 (at_lt b192 hz191)) ?_
          refine d_take 3 rfl rfl (by kernel_rfl) (by kernel_rfl) (by kernel_rfl) (p_fieldo (off := 1) (by kernel_rfl) rfl) ?_
          refine d_take 4 rfl rfl (by kernel_rfl) (by kernel_rfl) (by kernel_rfl) (p_loadH (k := 11) (by kernel_rfl) rfl rfl rfl (by omega) rfl) ?_
          obtain ⟨z193, hz194, b195⟩ := at_get (xs := z38.2) (n := 0) (by omega) (by (have e7 := k7 _ (by assumption); omega))
          refine d_take 8 rfl rfl (by kernel_rfl) (by kernel_rfl) (by kernel_rfl) (p_indexo (by kernel_rfl) rfl rfl rfl b195 (at_lt b195 hz194)) ?_
          refine d_only 9 rfl (by kernel_rfl) rfl (o_storeo ((x142)) (n := 1) (by kernel_rfl) rfl rfl hz194 rfl rfl rfl rfl (.cons .sc .nil) rfl (fun j h1 h2 => by simp at h1 h2; omega)) ?_
          refine d_end (by kernel_rfl) ?_
          refine t_endblock ?_
          refine t_seq ?_
          refine gt_putH 11 7 (((0 : Int)).toNat) 1 ((z38.1, (z38.2).set ((0 : Int)).toNat ((x142)))) rfl rfl rfl (List.getElem?_eq_some_iff.1 hz39).1 rfl (fun j hj => by (have : j = 0 ∨ j = 1 := by omega); rcases this with rfl | rfl <;> rfl) ?_
          refine t_region ?_
          refine r_op (o_loadAb rfl (n := 5) (by kernel_rfl) (by kernel_rfl) rfl rfl rfl) ?_
          refine r_op (o_storeb (n := 5) (by kernel_rfl) rfl rfl rfl rfl rfl rfl) ?_
          refine r_end ?_
          refine t_ret Tryz.func108 (.cells (n := 5) (by kernel_rfl) (by kernel_rfl) rfl rfl rfl .nil) rfl fun E S w u hI hd => ?_
          refine post_mkG (⟨((b1)).set (((0 : Int)).toNat) ((z38.1, (z38.2).set ((0 : Int)).toNat ((x142)))), (hs2), (e3), (lv4), (rv5), (i2143), (h2144)⟩) ?_ hI hd ?_ ⟨rfl, ⟨rfl, ⟨rfl, trivial⟩⟩⟩ rfl rfl <;> clear hI hd
          · (try dsimp only) <;> ((refine ⟨⟨by (simp only [List.length_set]; omega), k2, mem_set k3 (by have e8 := k3 _ (List.mem_of_getElem? hz39); exact ⟨e8.1, by (simp only [List.length_set]; exact e8.2.1), mem_set e8.2.2 (by have e9 := pick3 (by assumption); omega)⟩), k4, k5, k6⟩, by omega⟩; done))
          · rfl
    ·
      have h37' := of_decide_eq_false h37
      refine t_seq ?_
      refine t_region ?_
      refine r_op (o_bin rfl rfl rfl rfl) ?_
      refine r_op (o_assign rfl rfl) ?_
      refine r_end ?_
      refine t_cond rfl (fun h196 => ?_) (fun h196 => ?_)
      ·
        have h196' := of_decide_eq_true h196
        refine t_region ?_
        refine r_op (o_move rfl rfl) ?_
        refine r_opX (o_callGM 0 11 12 (pv := some (v0)) (Go.Proofs.enters_of Tryz.func81 (by kernel_rfl) rfl) (c_spec_l1Below (((code))) ((i213)) ((h214)) (4) (by omega) (by omega) (by omega) (by omega) (by omega)) rfl rfl (.cur rfl (.cons rfl .nil)) rfl (fun ⟨_, _, _⟩ => rfl) (fun _ => rfl) (fun ⟨_, _, _⟩ => rfl) rfl rfl) ?_
        rintro ⟨⟨x197, i2198, h2199⟩, hq200⟩
        try dsimp only at hq200
        try dsimp only
        obtain ⟨q201, q202⟩ := hq200
        refine r_op (o_fieldb rfl (off := 3) (by kernel_rfl) rfl) ?_
        refine r_op (o_storeb (n := 1) (by kernel_rfl) rfl rfl rfl rfl rfl rfl) ?_
        refine r_end ?_
        refine t_endblock ?_
        refine t_seq ?_
        refine t_region ?_
        refine r_op (o_loadAb rfl (n := 5) (by kernel_rfl) (by kernel_rfl) rfl rfl rfl) ?_
        refine r_op (o_storeb (n := 5) (by kernel_rfl) rfl rfl rfl rfl rfl rfl) ?_
        refine r_end ?_
        refine t_ret Tryz.func108 (.cells (n := 5) (by kernel_rfl) (by kernel_rfl) rfl rfl rfl .nil) rfl fun E S w u hI hd => ?_
        refine post_mkG (⟨(b1), (hs2), (e3), (x197), (rv5), (i2198), (h2199)⟩) ?_ hI hd ?_ ⟨rfl, ⟨rfl, ⟨rfl, trivial⟩⟩⟩ rfl rfl <;> clear hI hd
        · (try dsimp only) <;> ((exact ⟨⟨k1, k2, k3, k4, by (try dsimp only); omega, k6⟩, by omega⟩))
        · rfl
      ·
        have h196' := of_decide_eq_false h196
        refine t_seq ?_
        refine t_region ?_
        refine r_op (o_bin rfl rfl rfl rfl) ?_
        refine r_op (o_assign rfl rfl) ?_
        refine r_end ?_
        refine t_cond rfl (fun h203 => ?_) (fun h203 => ?_)
        ·
          have h203' := of_decide_eq_true h203
          refine t_region ?_
          refine r_op (o_fieldb rfl (off := 2) (by kernel_rfl) rfl) ?_
          refine r_op (o_load1b rfl (by kernel_rfl) rfl rfl rfl) ?_
          refine r_op (o_not rfl rfl) ?_
          refine r_op (o_fieldb rfl (off := 2) (by kernel_rfl) rfl) ?_
          refine r_op (o_storeb (n := 1) (by kernel_rfl) rfl rfl rfl rfl rfl rfl) ?_
          refine r_end ?_
          refine t_endblock ?_
          refine t_seq ?_
          refine t_region ?_
          refine r_op (o_loadAb rfl (n := 5) (by kernel_rfl) (by kernel_rfl) rfl rfl rfl) ?_
          refine r_op (o_storeb (n := 5) (by kernel_rfl) rfl rfl rfl rfl rfl rfl) ?_
          refine r_end ?_
          refine t_ret Tryz.func108 (.cells (n := 5) (by kernel_rfl) (by kernel_rfl) rfl rfl rfl .nil) rfl fun E S w u hI hd => ?_
          refine post_mkG (⟨(b1), (hs2), !((e3)), (lv4), (rv5), (i213), (h214)⟩) ?_ hI hd ?_ ⟨rfl, ⟨rfl, ⟨rfl, trivial⟩⟩⟩ rfl rfl <;> clear hI hd
          · (try dsimp only) <;> ((exact ⟨by assumption, by omega⟩))
          · rfl
        ·
          have h203' := of_decide_eq_false h203
          refine t_seq ?_
          refine t_region ?_
          refine r_op (o_bin rfl rfl rfl rfl) ?_
          refine r_op (o_assign rfl rfl) ?_
          refine r_end ?_
          refine t_cond rfl (fun h204 => ?_) (fun h204 => ?_)
          ·
            have h204' := of_decide_eq_true h204
            refine t_draw (fun i => !(Nat.beq i 4 || Nat.beq i 5 || Nat.beq i 7 || Nat.beq i 9)) (by kernel_rfl) ?_
            refine d_takeP 0 rfl rfl (by kernel_rfl) (by kernel_rfl) (by kernel_rfl) (pw_fieldb (off := 1) (by kernel_rfl) rfl) ?_
            refine d_takeP 2 rfl rfl (by kernel_rfl) (by kernel_rfl) (by kernel_rfl) (pw_move rfl) ?_
            refine d_take 3 rfl rfl (by kernel_rfl) (by kernel_rfl) (by kernel_rfl) (p_move rfl) ?_
            refine d_twoX 1 4 rfl rfl (by kernel_rfl) rfl rfl (osX (o_load1b rfl (by kernel_rfl) rfl rfl rfl)) (o_callGM 0 11 12 (pv := some (v0)) (Go.Proofs.enters_of Tryz.func81 (by kernel_rfl) rfl) (c_spec_l1Below (((code))) ((i213)) ((h214)) (5) (by omega) (by omega) (by omega) (by omega) (by omega)) rfl rfl (.cur rfl (.cons rfl .nil)) rfl (fun ⟨_, _, _⟩ => rfl) (fun _ => rfl) (fun ⟨_, _, _⟩ => rfl) rfl rfl) ?_ ?_
            ·
              rintro ⟨⟩
              refine d_onlyX 4 rfl (by kernel_rfl) rfl (o_callGM 0 11 12 (pv := some (v0)) (Go.Proofs.enters_of Tryz.func81 (by kernel_rfl) rfl) (c_spec_l1Below (((code))) ((i213)) ((h214)) (5) (by omega) (by omega) (by omega) (by omega) (by omega)) rfl rfl (.cur rfl (.cons rfl .nil)) rfl (fun ⟨_, _, _⟩ => rfl) (fun _ => rfl) (fun ⟨_, _, _⟩ => rfl) rfl rfl) ?_
              rintro ⟨⟨x211, i2212, h2213⟩, hq214⟩
              try dsimp only at hq214
              try dsimp only
              obtain ⟨q215, q216⟩ := hq214
              refine d_onlyX 5 rfl (by kernel_rfl) rfl (o_callGM 0 12 17 (pv := some (v0)) (Go.Proofs.enters_of Tryz.func160 (by kernel_rfl) rfl) (c_spec_l9Atom ((((code)))) ((i2212)) ((h2213)) ((x211)) (3) (by omega) (by omega) (by omega) (by omega) (by omega)) rfl rfl (.cur rfl (.cons rfl (.cons rfl .nil))) rfl (fun ⟨_, _, _⟩ => rfl) (fun _ => rfl) (fun ⟨_, _, _⟩ => rfl) rfl rfl) ?_
              rintro ⟨⟨ts217, i2218, h2219⟩, hq220⟩
              try dsimp only at hq220
              try dsimp only
              obtain ⟨q221, q222, q223⟩ := hq220
              have hy9 : ∀ x ∈ ts217, -3 ≤ x ∧ x ≤ 4 := (by assumption)
              refine d_only 6 rfl (by kernel_rfl) rfl (o_litS 17 (e := 40) (sz := 2) (zs := [.int .i64 (0), .slice none 0 0]) rfl rfl (by kernel_rfl) rfl rfl rfl rfl rfl) ?_
              refine d_only 7 rfl (by kernel_rfl) rfl (o_append 8 (e := 40) (sz := 2) (by' := 32) ((((x211)), (ts217))) rfl (by kernel_rfl) rfl rfl rfl rfl rfl rfl (.cons .sc (.take (.own rfl) rfl .nil)) rfl (by omega) (by omega)) ?_
              refine d_take 8 rfl rfl (by kernel_rfl) (by kernel_rfl) (by kernel_rfl) (p_fieldb (off := 1) (by kernel_rfl) rfl) ?_
              refine d_only 9 rfl (by kernel_rfl) rfl (o_storeb (n := 1) (by kernel_rfl) rfl rfl rfl rfl rfl rfl) ?_
              refine d_end (by kernel_rfl) ?_
              refine t_endblock ?_
              refine t_seq ?_
              refine t_region ?_
              refine r_op (o_loadAb rfl (n := 5) (by kernel_rfl) (by kernel_rfl) rfl rfl rfl) ?_
              refine r_op (o_storeb (n := 5) (by kernel_rfl) rfl rfl rfl rfl rfl rfl) ?_
              refine r_end ?_
              refine t_ret Tryz.func108 (.cells (n := 5) (by kernel_rfl) (by kernel_rfl) rfl rfl rfl .nil) rfl fun E S w u hI hd => ?_
              refine post_mkG (⟨(b1), (hs2) ++ [(((x211)), (ts217))], (e3), (lv4), (rv5), (i2218), (h2219)⟩) ?_ hI hd ?_ ⟨rfl, ⟨rfl, ⟨rfl, trivial⟩⟩⟩ rfl rfl <;> clear hI hd
              · (try dsimp only) <;> ((exact ⟨⟨k1, by (simp only [List.length_append, List.length_singleton]; omega), k3, mem_snoc k4 ⟨by (try dsimp only); omega, by (try dsimp only); omega, fun x hx => by have e9 := hy9 x hx; omega⟩, k5, k6⟩, by omega⟩))
              · rfl
            ·
              rintro ⟨⟨x205, i2206, h2207⟩, hq208⟩
              try dsimp only at hq208
              try dsimp only
              obtain ⟨q209, q210⟩ := hq208
              refine d_twoX 1 5 rfl rfl (by kernel_rfl) rfl rfl (osX (o_load1b rfl (by kernel_rfl) rfl rfl rfl)) (o_callGM 0 12 17 (pv := some (v0)) (Go.Proofs.enters_of Tryz.func160 (by kernel_rfl) rfl) (c_spec_l9Atom ((((code)))) ((i2206)) ((h2207)) ((x205)) (3) (by omega) (by omega) (by omega) (by omega) (by omega)) rfl rfl (.cur rfl (.cons rfl (.cons rfl .nil))) rfl (fun ⟨_, _, _⟩ => rfl) (fun _ => rfl) (fun ⟨_, _, _⟩ => rfl) rfl rfl) ?_ ?_
              ·
                rintro ⟨⟩
                refine d_onlyX 5 rfl (by kernel_rfl) rfl (o_callGM 0 12 17 (pv := some (v0)) (Go.Proofs.enters_of Tryz.func160 (by kernel_rfl) rfl) (c_spec_l9Atom ((((code)))) ((i2206)) ((h2207)) ((x205)) (3) (by omega) (by omega) (by omega) (by omega) (by omega)) rfl rfl (.cur rfl (.cons rfl (.cons rfl .nil))) rfl (fun ⟨_, _, _⟩ => rfl) (fun _ => rfl) (fun ⟨_, _, _⟩ => rfl) rfl rfl) ?_
                rintro ⟨⟨ts231, i2232, h2233⟩, hq234⟩
                try dsimp only at hq234
                try dsimp only
                obtain ⟨q235, q236, q237⟩ := hq234
                have hy9 : ∀ x ∈ ts231, -3 ≤ x ∧ x ≤ 4 := (by assumption)
                refine d_only 6 rfl (by kernel_rfl) rfl (o_litS 17 (e := 40) (sz := 2) (zs := [.int .i64 (0), .slice none 0 0]) rfl rfl (by kernel_rfl) rfl rfl rfl rfl rfl) ?_
                refine d_only 7 rfl (by kernel_rfl) rfl (o_append 8 (e := 40) (sz := 2) (by' := 32) ((((x205)), (ts231))) rfl (by kernel_rfl) rfl rfl rfl rfl rfl rfl (.cons .sc (.take (.own rfl) rfl .nil)) rfl (by omega) (by omega)) ?_
                refine d_take 8 rfl rfl (by kernel_rfl) (by kernel_rfl) (by kernel_rfl) (p_fieldb (off := 1) (by kernel_rfl) rfl) ?_
                refine d_only 9 rfl (by kernel_rfl) rfl (o_storeb (n := 1) (by kernel_rfl) rfl rfl rfl rfl rfl rfl) ?_
                refine d_end (by kernel_rfl) ?_
                refine t_endblock ?_
                refine t_seq ?_
                refine t_region ?_
                refine r_op (o_loadAb rfl (n := 5) (by kernel_rfl) (by kernel_rfl) rfl rfl rfl) ?_
                refine r_op (o_storeb (n := 5) (by kernel_rfl) rfl rfl rfl rfl rfl rfl) ?_
                refine r_end ?_
                refine t_ret Tryz.func108 (.cells (n := 5) (by kernel_rfl) (by kernel_rfl) rfl rfl rfl .nil) rfl fun E S w u hI hd => ?_
                refine post_mkG (⟨(b1), (hs2) ++ [(((x205)), (ts231))], (e3), (lv4), (rv5), (i2232), (h2233)⟩) ?_ hI hd ?_ ⟨rfl, ⟨rfl, ⟨rfl, trivial⟩⟩⟩ rfl rfl <;> clear hI hd
                · (try dsimp only) <;> ((exact ⟨⟨k1, by (simp only [List.length_append, List.length_singleton]; omega), k3, mem_snoc k4 ⟨by (try dsimp only); omega, by (try dsimp only); omega, fun x hx => by have e9 := hy9 x hx; omega⟩, k5, k6⟩, by omega⟩))
                · rfl
              ·
                rintro ⟨⟨ts224, i2225, h2226⟩, hq227⟩
                try dsimp only at hq227
                try dsimp only
                obtain ⟨q228, q229, q230⟩ := hq227
                have hy9 : ∀ x ∈ ts224, -3 ≤ x ∧ x ≤ 4 := (by assumption)
                refine d_take 1 rfl rfl (by kernel_rfl) (by kernel_rfl) (by kernel_rfl) (p_load1b (by kernel_rfl) rfl rfl rfl) ?_
                refine d_only 6 rfl (by kernel_rfl) rfl (o_litS 17 (e := 40) (sz := 2) (zs := [.int .i64 (0), .slice none 0 0]) rfl rfl (by kernel_rfl) rfl rfl rfl rfl rfl) ?_
                refine d_only 7 rfl (by kernel_rfl) rfl (o_append 8 (e := 40) (sz := 2) (by' := 32) ((((x205)), (ts224))) rfl (by kernel_rfl) rfl rfl rfl rfl rfl rfl (.cons .sc (.take (.own rfl) rfl .nil)) rfl (by omega) (by omega)) ?_
                refine d_take 8 rfl rfl (by kernel_rfl) (by kernel_rfl) (by kernel_rfl) (p_fieldb (off := 1) (by kernel_rfl) rfl) ?_
                refine d_only 9 rfl (by kernel_rfl) rfl (o_storeb (n := 1) (by kernel_rfl) rfl rfl rfl rfl rfl rfl) ?_
                refine d_end (by kernel_rfl) ?_
                refine t_endblock ?_
                refine t_seq ?_
                refine t_region ?_
                refine r_op (o_loadAb rfl (n := 5) (by kernel_rfl) (by kernel_rfl) rfl rfl rfl) ?_
                refine r_op (o_storeb (n := 5) (by kernel_rfl) rfl rfl rfl rfl rfl rfl) ?_
                refine r_end ?_
                refine t_ret Tryz.func108 (.cells (n := 5) (by kernel_rfl) (by kernel_rfl) rfl rfl rfl .nil) rfl fun E S w u hI hd => ?_
                refine post_mkG (⟨(b1), (hs2) ++ [(((x205)), (ts224))], (e3), (lv4), (rv5), (i2225), (h2226)⟩) ?_ hI hd ?_ ⟨rfl, ⟨rfl, ⟨rfl, trivial⟩⟩⟩ rfl rfl <;> clear hI hd
                · (try dsimp only) <;> ((exact ⟨⟨k1, by (simp only [List.length_append, List.length_singleton]; omega), k3, mem_snoc k4 ⟨by (try dsimp only); omega, by (try dsimp only); omega, fun x hx => by have e9 := hy9 x hx; omega⟩, k5, k6⟩, by omega⟩))
                · rfl
          ·
            have h204' := of_decide_eq_false h204
            refine t_skip ?_
            refine t_endblock ?_
            refine t_seq ?_
            refine t_region ?_
            refine r_op (o_loadAb rfl (n := 5) (by kernel_rfl) (by kernel_rfl) rfl rfl rfl) ?_
            refine r_op (o_storeb (n := 5) (by kernel_rfl) rfl rfl rfl rfl rfl rfl) ?_
            refine r_end ?_
            refine t_ret Tryz.func108 (.cells (n := 5) (by kernel_rfl) (by kernel_rfl) rfl rfl rfl .nil) rfl fun E S w u hI hd => ?_
            refine post_mkG (⟨(b1), (hs2), (e3), (lv4), (rv5), (i213), (h214)⟩) ?_ hI hd ?_ ⟨rfl, ⟨rfl, ⟨rfl, trivial⟩⟩⟩ rfl rfl <;> clear hI hd
            · (try dsimp only) <;> ((exact ⟨by assumption, by omega⟩))
            · rfl
set_option maxHeartbeats 1000000 in
set_option maxRecDepth 10000 in
theorem c_spec_l11Both (code : List Int) (hc : code.length ≤ 1048576) : PuG Tryz.prog 48 [.c (.t none (.sl 1 encU (code)))] (fun (⟨rs, fs, b, hs, e, lv, rv, i2, h2⟩ : Rels × Atoms × Atoms × Atoms × Bool × Int × Int × Int × Int) => instL rs fs ∧ depL (b, hs, e, lv, rv) ∧ 0 ≤ i2 ∧ i2 ≤ code.length) (fun (⟨rs, fs, b, hs, e, lv, rv, i2, h2⟩ : Rels × Atoms × Atoms × Atoms × Bool × Int × Int × Int × Int) => [(2, some (.box [.t none (.sl 1 encU (code)), .t none (.v (.int .i64 (i2))), .t none (.v (.int .i64 (h2)))]))]) 3 (fun (⟨rs, fs, b, hs, e, lv, rv, i2, h2⟩ : Rels × Atoms × Atoms × Atoms × Bool × Int × Int × Int × Int) => .tup [(false, [.ptr 2 0]), (true, [.t none (.sl 3 (enS3 encS encI encB) (rs)), .t none (.sl 2 (enS2 encI (enSl 1 encI)) (fs))]), (true, [.t none (.sl 2 (enS2 encI (enSl 1 encI)) (b)), .t none (.sl 2 (enS2 encI (enSl 1 encI)) (hs)), .t none (.v (.bool (e))), .t none (.v (.int .i64 (lv))), .t none (.v (.int .i64 (rv)))])]) := by
  refine pu_enterG Tryz.func48 rfl (Nat.le_of_ble_eq_true rfl) fun w S => ?_
  refine t_seq ?_
  refine t_region ?_
  refine r_op (o_assign rfl rfl) ?_
  refine r_op (o_alloc 0 (zs := [.slice none 0 0, .slice none 0 0]) rfl rfl (by kernel_rfl) rfl) ?_
  refine r_op (o_alloc 1 (zs := [.slice none 0 0, .slice none 0 0, .bool (false), .int .i64 (0), .int .i64 (0)]) rfl rfl (by kernel_rfl) rfl) ?_
  refine r_end ?_
  refine t_seq ?_
  refine t_region ?_
  refine r_op (o_move rfl rfl) ?_
  refine r_opX (o_callG 2 3 (Go.Proofs.enters_of Tryz.func104 (by kernel_rfl) rfl) (c_spec_l1New (code) (by omega)) rfl (.cons rfl (.c .t0) .nil) rfl rfl) ?_
  rintro ⟨h1, hq2⟩
  try dsimp only at hq2
  try dsimp only
  refine r_op (o_assign rfl rfl) ?_
  refine r_end ?_
  refine t_seq ?_
  refine t_region ?_
  refine r_op (o_move rfl rfl) ?_
  refine r_opX (o_callGM 2 3 4 (pv := none) (Go.Proofs.enters_of Tryz.func105 (by kernel_rfl) rfl) (c_spec_l11Inst ((code)) (0) ((h1)) (by omega) (by omega) (by omega)) rfl rfl (.cur rfl .nil) rfl (fun ⟨_, _, _, _⟩ => rfl) (fun _ => rfl) (fun ⟨_, _, _, _⟩ => rfl) rfl rfl) ?_
  rintro ⟨⟨rs4, fs5, i26, h27⟩, hq8⟩
  try dsimp only at hq8
  try dsimp only
  obtain ⟨q9, q10⟩ := hq8
  refine r_op (o_alloc 4 (zs := [.slice none 0 0, .slice none 0 0]) rfl rfl (by kernel_rfl) rfl) ?_
  refine r_op (o_storeb (n := 2) (by kernel_rfl) rfl rfl rfl rfl rfl rfl) ?_
  refine r_end ?_
  refine t_seq ?_
  refine t_region ?_
  refine r_op (o_move rfl rfl) ?_
  refine r_opX (o_callGM 2 5 12 (pv := none) (Go.Proofs.enters_of Tryz.func106 (by kernel_rfl) rfl) (c_spec_l9Rule (((code))) ((i26)) ((h27)) (by omega) (by omega) (by omega)) rfl rfl (.cur rfl .nil) rfl (fun ⟨_, _, _, _, _, _, _⟩ => rfl) (fun _ => rfl) (fun ⟨_, _, _, _, _, _, _⟩ => rfl) rfl rfl) ?_
  rintro ⟨⟨b11, hs12, e13, lv14, rv15, i216, h217⟩, hq18⟩
  try dsimp only at hq18
  try dsimp only
  obtain ⟨q19, q20, q21⟩ := hq18
  refine r_op (o_alloc 12 (zs := [.slice none 0 0, .slice none 0 0, .bool (false), .int .i64 (0), .int .i64 (0)]) rfl rfl (by kernel_rfl) rfl) ?_
  refine r_op (o_storeb (n := 5) (by kernel_rfl) rfl rfl rfl rfl rfl rfl) ?_
  refine r_end ?_
  refine t_seq ?_
  refine t_seq ?_
  refine t_region ?_
  refine r_op (o_move rfl rfl) ?_
  refine r_opX (o_callGM 2 13 14 (pv := none) (Go.Proofs.enters_of Tryz.func81 (by kernel_rfl) rfl) (c_spec_l1Below ((((code)))) ((i216)) ((h217)) (16) (by omega) (by omega) (by omega) (by omega) (by omega)) rfl rfl (.cur rfl (.cons rfl .nil)) rfl (fun ⟨_, _, _⟩ => rfl) (fun _ => rfl) (fun ⟨_, _, _⟩ => rfl) rfl rfl) ?_
  rintro ⟨⟨x22, i223, h224⟩, hq25⟩
  try dsimp only at hq25
  try dsimp only
  obtain ⟨q26, q27⟩ := hq25
  refine r_end ?_
  refine t_block ?_
  refine t_seq ?_
  refine t_region ?_
  refine r_op (o_bin rfl rfl rfl rfl) ?_
  refine r_op (o_assign rfl rfl) ?_
  refine r_end ?_
  refine t_cond rfl (fun h28 => ?_) (fun h28 => ?_)
  ·
    have h28' := of_decide_eq_true h28
    refine t_region ?_
    refine r_op (o_move rfl rfl) ?_
    refine r_opX (o_callGM 2 14 15 (pv := none) (Go.Proofs.enters_of Tryz.func107 (by kernel_rfl) rfl) (c_spec_l5Any (((((code))))) ((i223)) ((h224)) (by omega) (by omega) (by omega)) rfl rfl (.cur rfl .nil) rfl (fun ⟨_, _, _, _⟩ => rfl) (fun _ => rfl) (fun ⟨_, _, _, _⟩ => rfl) rfl rfl) ?_
    rintro ⟨⟨rs29, fs30, i231, h232⟩, hq33⟩
    try dsimp only at hq33
    try dsimp only
    obtain ⟨q34, q35⟩ := hq33
    refine r_op (o_storeb (n := 2) (by kernel_rfl) rfl rfl rfl rfl rfl rfl) ?_
    refine r_end ?_
    refine t_endblock ?_
    refine t_seq ?_
    refine t_draw (fun i => !(Nat.beq i 4 || Nat.beq i 5)) (by kernel_rfl) ?_
    refine d_take 0 rfl rfl (by kernel_rfl) (by kernel_rfl) (by kernel_rfl) (p_move rfl) ?_
    refine d_take 1 rfl rfl (by kernel_rfl) (by kernel_rfl) (by kernel_rfl) (p_loadAb (n := 2) (by kernel_rfl) (by kernel_rfl) rfl rfl rfl) ?_
    refine d_take 3 rfl rfl (by kernel_rfl) (by kernel_rfl) (by kernel_rfl) (p_assign rfl) ?_
    refine d_two 2 4 rfl rfl (by kernel_rfl) rfl rfl (o_loadAb rfl (n := 5) (by kernel_rfl) (by kernel_rfl) rfl rfl rfl) (o_storeb (n := 2) (by kernel_rfl) rfl rfl rfl rfl rfl rfl) ?_ ?_
    ·
      refine d_only 4 rfl (by kernel_rfl) rfl (o_storeb (n := 2) (by kernel_rfl) rfl rfl rfl rfl rfl rfl) ?_
      refine d_only 5 rfl (by kernel_rfl) rfl (o_storeb (n := 5) (by kernel_rfl) rfl rfl rfl rfl rfl rfl) ?_
      refine d_end (by kernel_rfl) ?_
      refine gt_freeze 10 rfl (frz_pu rfl) ?_
      refine gt_freeze 11 rfl (frz_pu rfl) ?_
      refine t_ret Tryz.func48 (.tmp rfl (.cells (n := 2) (by kernel_rfl) (by kernel_rfl) rfl rfl rfl (.cells (n := 5) (by kernel_rfl) (by kernel_rfl) rfl rfl rfl .nil))) rfl fun E S w u hI hd => ?_
      refine post_mkG (⟨(rs29), (fs30), (b11), (hs12), (e13), (lv14), (rv15), (i231), (h232)⟩) ?_ hI hd ?_ ⟨rfl, trivial⟩ rfl rfl <;> clear hI hd
      · (try dsimp only) <;> (exact ⟨by assumption, by assumption, by omega⟩)
      · rfl
    ·
      refine d_take 2 rfl rfl (by kernel_rfl) (by kernel_rfl) (by kernel_rfl) (p_loadAb (n := 5) (by kernel_rfl) (by kernel_rfl) rfl rfl rfl) ?_
      refine d_only 5 rfl (by kernel_rfl) rfl (o_storeb (n := 5) (by kernel_rfl) rfl rfl rfl rfl rfl rfl) ?_
      refine d_end (by kernel_rfl) ?_
      refine gt_freeze 10 rfl (frz_pu rfl) ?_
      refine gt_freeze 11 rfl (frz_pu rfl) ?_
      refine t_ret Tryz.func48 (.tmp rfl (.cells (n := 2) (by kernel_rfl) (by kernel_rfl) rfl rfl rfl (.cells (n := 5) (by kernel_rfl) (by kernel_rfl) rfl rfl rfl .nil))) rfl fun E S w u hI hd => ?_
      refine post_mkG (⟨(rs29), (fs30), (b11), (hs12), (e13), (lv14), (rv15), (i231), (h232)⟩) ?_ hI hd ?_ ⟨rfl, trivial⟩ rfl rfl <;> clear hI hd
      · (try dsimp only) <;> (exact ⟨by assumption, by assumption, by omega⟩)
      · rfl
  ·
    have h28' := of_decide_eq_false h28
    refine t_seq ?_
    refine t_region ?_
    refine r_op (o_bin rfl rfl rfl rfl) ?_
    refine r_op (o_assign rfl rfl) ?_
    refine r_end ?_
    refine t_cond rfl (fun h36 => ?_) (fun h36 => ?_)
    ·
      have h36' := of_decide_eq_true h36
      refine t_region ?_
      refine r_op (o_move rfl rfl) ?_
      refine r_opX (o_callGM 2 14 23 (pv := none) (Go.Proofs.enters_of Tryz.func108 (by kernel_rfl) rfl) (c_spec_l9Any (((((code))))) ((i223)) ((h224)) (by omega) (by omega) (by omega)) rfl rfl (.cur rfl .nil) rfl (fun ⟨_, _, _, _, _, _, _⟩ => rfl) (fun _ => rfl) (fun ⟨_, _, _, _, _, _, _⟩ => rfl) rfl rfl) ?_
      rintro ⟨⟨b37, hs38, e39, lv40, rv41, i242, h243⟩, hq44⟩
      try dsimp only at hq44
      try dsimp only
      obtain ⟨q45, q46⟩ := hq44
      refine r_op (o_storeb (n := 5) (by kernel_rfl) rfl rfl rfl rfl rfl rfl) ?_
      refine r_end ?_
      refine t_endblock ?_
      refine t_seq ?_
      refine t_draw (fun i => !(Nat.beq i 4 || Nat.beq i 5)) (by kernel_rfl) ?_
      refine d_take 0 rfl rfl (by kernel_rfl) (by kernel_rfl) (by kernel_rfl) (p_move rfl) ?_
      refine d_take 1 rfl rfl (by kernel_rfl) (by kernel_rfl) (by kernel_rfl) (p_loadAb (n := 2) (by kernel_rfl) (by kernel_rfl) rfl rfl rfl) ?_
      refine d_take 3 rfl rfl (by kernel_rfl) (by kernel_rfl) (by kernel_rfl) (p_assign rfl) ?_
      refine d_two 2 4 rfl rfl (by kernel_rfl) rfl rfl (o_loadAb rfl (n := 5) (by kernel_rfl) (by kernel_rfl) rfl rfl rfl) (o_storeb (n := 2) (by kernel_rfl) rfl rfl rfl rfl rfl rfl) ?_ ?_
      ·
        refine d_only 4 rfl (by kernel_rfl) rfl (o_storeb (n := 2) (by kernel_rfl) rfl rfl rfl rfl rfl rfl) ?_
        refine d_only 5 rfl (by kernel_rfl) rfl (o_storeb (n := 5) (by kernel_rfl) rfl rfl rfl rfl rfl rfl) ?_
        refine d_end (by kernel_rfl) ?_
        refine gt_freeze 21 rfl (frz_pu rfl) ?_
        refine gt_freeze 22 rfl (frz_pu rfl) ?_
        refine t_ret Tryz.func48 (.tmp rfl (.cells (n := 2) (by kernel_rfl) (by kernel_rfl) rfl rfl rfl (.cells (n := 5) (by kernel_rfl) (by kernel_rfl) rfl rfl rfl .nil))) rfl fun E S w u hI hd => ?_
        refine post_mkG (⟨(rs4), (fs5), (b37), (hs38), (e39), (lv40), (rv41), (i242), (h243)⟩) ?_ hI hd ?_ ⟨rfl, trivial⟩ rfl rfl <;> clear hI hd
        · (try dsimp only) <;> (exact ⟨by assumption, by assumption, by omega⟩)
        · rfl
      ·
        refine d_take 2 rfl rfl (by kernel_rfl) (by kernel_rfl) (by kernel_rfl) (p_loadAb (n := 5) (by kernel_rfl) (by kernel_rfl) rfl rfl rfl) ?_
        refine d_only 5 rfl (by kernel_rfl) rfl (o_storeb (n := 5) (by kernel_rfl) rfl rfl rfl rfl rfl rfl) ?_
        refine d_end (by kernel_rfl) ?_
        refine gt_freeze 21 rfl (frz_pu rfl) ?_
        refine gt_freeze 22 rfl (frz_pu rfl) ?_
        refine t_ret Tryz.func48 (.tmp rfl (.cells (n := 2) (by kernel_rfl) (by kernel_rfl) rfl rfl rfl (.cells (n := 5) (by kernel_rfl) (by kernel_rfl) rfl rfl rfl .nil))) rfl fun E S w u hI hd => ?_
        refine post_mkG (⟨(rs4), (fs5), (b37), (hs38), (e39), (lv40), (rv41), (i242), (h243)⟩) ?_ hI hd ?_ ⟨rfl, trivial⟩ rfl rfl <;> clear hI hd
        · (try dsimp only) <;> (exact ⟨by assumption, by assumption, by omega⟩)
        · rfl
    ·
      have h36' := of_decide_eq_false h36
      refine t_skip ?_
      refine t_endblock ?_
      refine t_seq ?_
      refine t_draw (fun i => !(Nat.beq i 4 || Nat.beq i 5)) (by kernel_rfl) ?_
      refine d_take 0 rfl rfl (by kernel_rfl) (by kernel_rfl) (by kernel_rfl) (p_move rfl) ?_
      refine d_take 1 rfl rfl (by kernel_rfl) (by kernel_rfl) (by kernel_rfl) (p_loadAb (n := 2) (by kernel_rfl) (by kernel_rfl) rfl rfl rfl) ?_
      refine d_take 3 rfl rfl (by kernel_rfl) (by kernel_rfl) (by kernel_rfl) (p_assign rfl) ?_
      refine d_two 2 4 rfl rfl (by kernel_rfl) rfl rfl (o_loadAb rfl (n := 5) (by kernel_rfl) (by kernel_rfl) rfl rfl rfl) (o_storeb (n := 2) (by kernel_rfl) rfl rfl rfl rfl rfl rfl) ?_ ?_
      ·
        refine d_only 4 rfl (by kernel_rfl) rfl (o_storeb (n := 2) (by kernel_rfl) rfl rfl rfl rfl rfl rfl) ?_
        refine d_only 5 rfl (by kernel_rfl) rfl (o_storeb (n := 5) (by kernel_rfl) rfl rfl rfl rfl rfl rfl) ?_
        refine d_end (by kernel_rfl) ?_
        refine gt_freeze 10 rfl (frz_pu rfl) ?_
        refine gt_freeze 11 rfl (frz_pu rfl) ?_
        refine t_ret Tryz.func48 (.tmp rfl (.cells (n := 2) (by kernel_rfl) (by kernel_rfl) rfl rfl rfl (.cells (n := 5) (by kernel_rfl) (by kernel_rfl) rfl rfl rfl .nil))) rfl fun E S w u hI hd => ?_
        refine post_mkG (⟨(rs4), (fs5), (b11), (hs12), (e13), (lv14), (rv15), (i223), (h224)⟩) ?_ hI hd ?_ ⟨rfl, trivial⟩ rfl rfl <;> clear hI hd
        · (try dsimp only) <;> (exact ⟨by assumption, by assumption, by omega⟩)
        · rfl
      ·
        refine d_take 2 rfl rfl (by kernel_rfl) (by kernel_rfl) (by kernel_rfl) (p_loadAb (n := 5) (by kernel_rfl) (by kernel_rfl) rfl rfl rfl) ?_
        refine d_only 5 rfl (by kernel_rfl) rfl (o_storeb (n := 5) (by kernel_rfl) rfl rfl rfl rfl rfl rfl) ?_
        refine d_end (by kernel_rfl) ?_
        refine gt_freeze 10 rfl (frz_pu rfl) ?_
        refine gt_freeze 11 rfl (frz_pu rfl) ?_
        refine t_ret Tryz.func48 (.tmp rfl (.cells (n := 2) (by kernel_rfl) (by kernel_rfl) rfl rfl rfl (.cells (n := 5) (by kernel_rfl) (by kernel_rfl) rfl rfl rfl .nil))) rfl fun E S w u hI hd => ?_
        refine post_mkG (⟨(rs4), (fs5), (b11), (hs12), (e13), (lv14), (rv15), (i223), (h224)⟩) ?_ hI hd ?_ ⟨rfl, trivial⟩ rfl rfl <;> clear hI hd
        · (try dsimp only) <;> (exact ⟨by assumption, by assumption, by omega⟩)
        · rfl
set_option maxHeartbeats 1000000 in
set_option maxRecDepth 10000 in
theorem c_spec_DrawFindMatches (code : List Int) (hc : code.length ≤ 1048576) : PuG Tryz.prog 8 [.c (.t none (.sl 1 encU (code)))] (fun (⟨rs, fs, b⟩ : Rels × Atoms × Atoms) => instL rs fs ∧ b.length ≤ 2 ∧ (∀ a ∈ b, atomL a)) (fun (⟨rs, fs, b⟩ : Rels × Atoms × Atoms) => []) 0 (fun (⟨rs, fs, b⟩ : Rels × Atoms × Atoms) => .tup [(true, [.t none (.sl 3 (enS3 encS encI encB) (rs)), .t none (.sl 2 (enS2 encI (enSl 1 encI)) (fs))]), (false, [.t none (.sl 2 (enS2 encI (enSl 1 encI)) (b))])]) := by
  refine pu_enterG Tryz.func8 rfl (Nat.le_of_ble_eq_true rfl) fun w S => ?_
  refine t_seq ?_
  refine t_region ?_
  refine r_op (o_alloc 0 (zs := [.slice none 0 0, .slice none 0 0]) rfl rfl (by kernel_rfl) rfl) ?_
  refine r_op (o_assign rfl rfl) ?_
  refine r_end ?_
  refine t_seq ?_
  refine t_region ?_
  refine r_op (o_move rfl rfl) ?_
  refine r_opX (o_callG 1 4 (Go.Proofs.enters_of Tryz.func48 (by kernel_rfl) rfl) (c_spec_l11Both (code) (by omega)) rfl (.cons rfl (.c .t0) .nil) rfl rfl) ?_
  rintro ⟨⟨rs1, fs2, b3, hs4, e5, lv6, rv7, i28, h29⟩, hq10⟩
  try dsimp only at hq10
  try dsimp only
  obtain ⟨q11, q12, q13⟩ := hq10
  refine r_op (o_move rfl rfl) ?_
  refine r_op (o_extract rfl rfl rfl rfl) ?_
  refine r_op (o_extract rfl rfl rfl rfl) ?_
  refine r_op (o_extract rfl rfl rfl rfl) ?_
  refine r_op (o_alloc 4 (zs := [.slice none 0 0, .slice none 0 0]) rfl rfl (by kernel_rfl) rfl) ?_
  refine r_op (o_alloc 5 (zs := [.slice none 0 0, .slice none 0 0, .bool (false), .int .i64 (0), .int .i64 (0)]) rfl rfl (by kernel_rfl) rfl) ?_
  refine r_op (o_assign rfl rfl) ?_
  refine r_op (o_storeb (n := 2) (by kernel_rfl) rfl rfl rfl rfl rfl rfl) ?_
  refine r_op (o_storeb (n := 5) (by kernel_rfl) rfl rfl rfl rfl rfl rfl) ?_
  refine r_end ?_
  refine t_seq ?_
  refine t_draw (fun i => !(Nat.beq i 3)) (by kernel_rfl) ?_
  refine d_take 0 rfl rfl (by kernel_rfl) (by kernel_rfl) (by kernel_rfl) (p_loadAb (n := 2) (by kernel_rfl) (by kernel_rfl) rfl rfl rfl) ?_
  refine d_takeP 1 rfl rfl (by kernel_rfl) (by kernel_rfl) (by kernel_rfl) (pw_fieldb (off := 0) (by kernel_rfl) rfl) ?_
  refine d_two 2 3 rfl rfl (by kernel_rfl) rfl rfl (o_load1b rfl (by kernel_rfl) rfl rfl rfl) (o_storeb (n := 2) (by kernel_rfl) rfl rfl rfl rfl rfl rfl) ?_ ?_
  ·
    refine d_only 3 rfl (by kernel_rfl) rfl (o_storeb (n := 2) (by kernel_rfl) rfl rfl rfl rfl rfl rfl) ?_
    refine d_take 4 rfl rfl (by kernel_rfl) (by kernel_rfl) (by kernel_rfl) (p_assign rfl) ?_
    refine d_end (by kernel_rfl) ?_
    refine t_ret Tryz.func8 (.cells (n := 2) (by kernel_rfl) (by kernel_rfl) rfl rfl rfl (.tmp rfl .nil)) rfl fun E S w u hI hd => ?_
    refine post_mkG (⟨(rs1), (fs2), (b3)⟩) ?_ hI hd ?_ trivial rfl rfl <;> clear hI hd
    · (try dsimp only) <;> ((have dd : depL (b3, hs4, e5, lv6, rv7) := (by assumption)); exact ⟨by assumption, dd.1.2, dd.2.2.1⟩)
    · rfl
  ·
    refine d_take 2 rfl rfl (by kernel_rfl) (by kernel_rfl) (by kernel_rfl) (p_load1b (by kernel_rfl) rfl rfl rfl) ?_
    refine d_take 4 rfl rfl (by kernel_rfl) (by kernel_rfl) (by kernel_rfl) (p_assign rfl) ?_
    refine d_end (by kernel_rfl) ?_
    refine t_ret Tryz.func8 (.cells (n := 2) (by kernel_rfl) (by kernel_rfl) rfl rfl rfl (.tmp rfl .nil)) rfl fun E S w u hI hd => ?_
    refine post_mkG (⟨(rs1), (fs2), (b3)⟩) ?_ hI hd ?_ trivial rfl rfl <;> clear hI hd
    · (try dsimp only) <;> ((have dd : depL (b3, hs4, e5, lv6, rv7) := (by assumption)); exact ⟨by assumption, dd.1.2, dd.2.2.1⟩)
    · rfl
set_option maxHeartbeats 1000000 in
set_option maxRecDepth 10000 in
theorem c_impl_within (a0 a1 a2 : Int) : Pu Tryz.prog 117 [.c (.t none (.v (.int .i64 (a0)))), .c (.t none (.v (.int .i64 (a1)))), .c (.t none (.v (.int .i64 (a2))))] [] 0 (.c (.t none (.v (.bool (decide (a1 ≤ a0 ∧ a0 ≤ a2)))))) := by
  refine pu_enter Tryz.func117 rfl (Nat.le_of_ble_eq_true rfl) fun w S => ?_
  refine t_seq ?_
  refine t_region ?_
  refine r_op (o_assign rfl rfl) ?_
  refine r_end ?_
  refine t_seq ?_
  refine t_region ?_
  refine r_op (o_move rfl rfl) ?_
  refine r_op (o_move rfl rfl) ?_
  refine r_op (o_bin rfl rfl rfl rfl) ?_
  refine r_op (o_move rfl rfl) ?_
  refine r_guard rfl rfl rfl (fun g1 => ?_) (fun g1 => ?_)
  ·
    have g1' := of_decide_eq_true g1
    refine r_op (o_move rfl rfl) ?_
    refine r_guard rfl rfl rfl (fun _ => ?_) (nc g1)
    refine r_op (o_move rfl rfl) ?_
    refine r_guard rfl rfl rfl (fun _ => ?_) (nc g1)
    refine r_op (o_bin rfl rfl rfl rfl) ?_
    refine r_op (o_pickT rfl rfl g1 rfl) ?_
    refine r_op (o_assign rfl rfl) ?_
    refine r_end ?_
    refine t_ret Tryz.func117 (.tmp rfl .nil) rfl fun E S w u hI hd => ?_
    refine post_mk hI hd ?_ trivial rfl rfl rfl <;> clear hI hd
    all_goals (simp_all <;> omega)
  ·
    have g1' := of_decide_eq_false g1
    refine r_guard rfl rfl rfl (ncf g1) (fun _ => ?_)
    refine r_guard rfl rfl rfl (ncf g1) (fun _ => ?_)
    refine r_op (o_pickF rfl rfl g1 rfl) ?_
    refine r_op (o_assign rfl rfl) ?_
    refine r_end ?_
    refine t_ret Tryz.func117 (.tmp rfl .nil) rfl fun E S w u hI hd => ?_
    refine post_mk hI hd ?_ trivial rfl rfl rfl <;> clear hI hd
    all_goals (simp_all <;> omega)
set_option maxHeartbeats 1000000 in
set_option maxRecDepth 10000 in
theorem c_impl_IsValidRelation (n : List UInt8) (a : Int) (s : Bool) : Pu Tryz.prog 151 [.agg [.t none (.v (.string (mkS (n)))), .t none (.v (.int .i64 (a))), .t none (.v (.bool (s)))]] [] 0 (.c (.t none (.v (.bool (relOk (n, a, s)))))) := by
  refine pu_enter Tryz.func151 rfl (Nat.le_of_ble_eq_true rfl) fun w S => ?_
  refine t_seq ?_
  refine t_region ?_
  refine r_op (o_box 0 rfl rfl rfl rfl) ?_
  refine r_op (o_assign rfl rfl) ?_
  refine r_end ?_
  refine t_seq ?_
  refine t_region ?_
  refine r_op (o_fieldb rfl (off := 0) (by kernel_rfl) rfl) ?_
  refine r_op (o_load1b rfl (by kernel_rfl) rfl rfl rfl) ?_
  refine r_op (o_lenS rfl Tryz.underlying9 rfl) ?_
  refine r_op (o_bin rfl rfl rfl rfl) ?_
  refine r_op (o_move rfl rfl) ?_
  refine r_guard rfl rfl rfl (fun g1 => ?_) (fun g1 => ?_)
  ·
    have g1' := of_decide_eq_true g1
    refine r_op (o_fieldb rfl (off := 0) (by kernel_rfl) rfl) ?_
    refine r_guard rfl rfl rfl (fun _ => ?_) (nc g1)
    refine r_op (o_load1b rfl (by kernel_rfl) rfl rfl rfl) ?_
    refine r_guard rfl rfl rfl (fun _ => ?_) (nc g1)
    refine r_op (o_str rfl rfl rfl rfl) ?_
    refine r_op (o_pickT rfl rfl g1 rfl) ?_
    refine r_op (o_move rfl rfl) ?_
    refine r_guard rfl rfl rfl (fun g2 => ?_) (fun g2 => ?_)
    ·
      have g2' := (bnt g2)
      refine r_op (o_fieldb rfl (off := 0) (by kernel_rfl) rfl) ?_
      refine r_guard rfl rfl rfl (fun _ => ?_) (nc g2)
      refine r_op (o_load1b rfl (by kernel_rfl) rfl rfl rfl) ?_
      refine r_guard rfl rfl rfl (fun _ => ?_) (nc g2)
      refine r_op (o_str rfl rfl rfl rfl) ?_
      refine r_op (o_pickT rfl rfl g2 rfl) ?_
      refine r_op (o_move rfl rfl) ?_
      refine r_guard rfl rfl rfl (fun g3 => ?_) (fun g3 => ?_)
      ·
        have g3' := (bnt g3)
        refine r_op (o_fieldb rfl (off := 1) (by kernel_rfl) rfl) ?_
        refine r_guard rfl rfl rfl (fun _ => ?_) (nc g3)
        refine r_op (o_load1b rfl (by kernel_rfl) rfl rfl rfl) ?_
        refine r_guard rfl rfl rfl (fun _ => ?_) (nc g3)
        refine r_op (o_call 1 1 false (Go.Proofs.enters_of Tryz.func117 (by kernel_rfl) rfl) (c_impl_within (a) (1) (3)) rfl (.cons rfl (.c .t0) (.cons rfl (.c .t0) (.cons rfl (.c .t0) .nil))) rfl rfl rfl) ?_
        refine r_op (o_pickT rfl rfl g3 rfl) ?_
        refine r_op (o_assign rfl rfl) ?_
        refine r_end ?_
        refine t_ret Tryz.func151 (.tmp rfl .nil) rfl fun E S w u hI hd => ?_
        refine post_mk hI hd ?_ trivial rfl rfl rfl <;> clear hI hd
        all_goals (refine scB ?_; (obtain ⟨c, rfl⟩ := one_of (by assumption); simp only [less_lo, less_hi, Bool.not_eq_true', Bool.not_eq_false', decide_eq_true_eq, decide_eq_false_iff_not] at *; simp [relOk, nameOk]; omega))
      ·
        have g3' := (bnf g3)
        refine r_guard rfl rfl rfl (ncf g3) (fun _ => ?_)
        refine r_guard rfl rfl rfl (ncf g3) (fun _ => ?_)
        refine r_op (o_pickF rfl rfl g3 rfl) ?_
        refine r_op (o_assign rfl rfl) ?_
        refine r_end ?_
        refine t_ret Tryz.func151 (.tmp rfl .nil) rfl fun E S w u hI hd => ?_
        refine post_mk hI hd ?_ trivial rfl rfl rfl <;> clear hI hd
        all_goals (refine scB ?_; (obtain ⟨c, rfl⟩ := one_of (by assumption); simp only [less_lo, less_hi, Bool.not_eq_true', Bool.not_eq_false', decide_eq_true_eq, decide_eq_false_iff_not] at *; simp [relOk, nameOk]; omega))
    ·
      have g2' := (bnf g2)
      refine r_guard rfl rfl rfl (ncf g2) (fun _ => ?_)
      refine r_guard rfl rfl rfl (ncf g2) (fun _ => ?_)
      refine r_op (o_pickF rfl rfl g2 rfl) ?_
      refine r_op (o_move rfl rfl) ?_
      refine r_guard rfl rfl rfl (ncf rfl) (fun _ => ?_)
      refine r_guard rfl rfl rfl (ncf rfl) (fun _ => ?_)
      refine r_guard rfl rfl rfl (ncf rfl) (fun _ => ?_)
      refine r_op (o_pickF rfl rfl rfl rfl) ?_
      refine r_op (o_assign rfl rfl) ?_
      refine r_end ?_
      refine t_ret Tryz.func151 (.tmp rfl .nil) rfl fun E S w u hI hd => ?_
      refine post_mk hI hd ?_ trivial rfl rfl rfl <;> clear hI hd
      all_goals (refine scB ?_; (obtain ⟨c, rfl⟩ := one_of (by assumption); simp only [less_lo, less_hi, Bool.not_eq_true', Bool.not_eq_false', decide_eq_true_eq, decide_eq_false_iff_not] at *; simp [relOk, nameOk]; omega))
  ·
    have g1' := of_decide_eq_false g1
    refine r_guard rfl rfl rfl (ncf g1) (fun _ => ?_)
    refine r_guard rfl rfl rfl (ncf g1) (fun _ => ?_)
    refine r_op (o_pickF rfl rfl g1 rfl) ?_
    refine r_op (o_move rfl rfl) ?_
    refine r_guard rfl rfl rfl (ncf rfl) (fun _ => ?_)
    refine r_guard rfl rfl rfl (ncf rfl) (fun _ => ?_)
    refine r_guard rfl rfl rfl (ncf rfl) (fun _ => ?_)
    refine r_op (o_pickF rfl rfl rfl rfl) ?_
    refine r_op (o_move rfl rfl) ?_
    refine r_guard rfl rfl rfl (ncf rfl) (fun _ => ?_)
    refine r_guard rfl rfl rfl (ncf rfl) (fun _ => ?_)
    refine r_guard rfl rfl rfl (ncf rfl) (fun _ => ?_)
    refine r_op (o_pickF rfl rfl rfl rfl) ?_
    refine r_op (o_assign rfl rfl) ?_
    refine r_end ?_
    refine t_ret Tryz.func151 (.tmp rfl .nil) rfl fun E S w u hI hd => ?_
    refine post_mk hI hd ?_ trivial rfl rfl rfl <;> clear hI hd
    all_goals (refine scB ?_; (have e := nameOk_not (by assumption); simp [relOk, e]; done))
set_option maxHeartbeats 1000000 in
set_option maxRecDepth 10000 in
theorem c_impl_AreValidRelations (l : List (List UInt8 × Int × Bool)) (hl : l.length ≤ 4611686018427387904) : Pu Tryz.prog 97 [.c (.t none (.sl 3 (enS3 encS encI encB) (l)))] [] 0 (.c (.t none (.v (.bool (relsOk l))))) := by
  refine pu_enter Tryz.func97 rfl (Nat.le_of_ble_eq_true rfl) fun w S => ?_
  refine t_seq ?_
  refine t_region ?_
  refine r_op (o_assign rfl rfl) ?_
  refine r_end ?_
  refine t_seq ?_
  refine t_seq ?_
  refine t_region ?_
  refine r_op (o_move rfl rfl) ?_
  refine r_op (o_len rfl rfl rfl) ?_
  refine r_op (o_move rfl rfl) ?_
  refine r_end ?_
  refine t_block ?_
  refine t_loopL (fun m => ⟨[(0, some (.c (.t none (.sl 3 (enS3 encS encI encB) (l))))), (5, some (.c (.t none (.sl 3 (enS3 encS encI encB) (l))))), (6, some (.c (.t none (.v (.int .i64 (((l).length : Int))))))), (7, some (.c (.t none (.v (.int .i64 ((m : Int)))))))], [], 0⟩ : Nat → St) (fun m => m ≤ l.length ∧ ∀ j, j < m → relStep l j = true) (fun m => l.length - m) 0 ⟨⟨rfl, ⟨rfl, ⟨rfl, ⟨rfl, trivial⟩⟩⟩⟩, trivial, rfl⟩ (by exact ⟨Nat.zero_le _, fun j h => by omega⟩) ?_
  rintro m hI ih0
  try dsimp only at hI ih0
  obtain ⟨i1, i2⟩ := hI
  refine t_seq ?_
  refine t_region ?_
  refine r_op (o_bin rfl rfl rfl rfl) ?_
  refine r_end ?_
  refine t_seq ?_
  refine t_cond rfl (fun h1 => ?_) (fun h1 => ?_)
  ·
    have h1' := of_decide_eq_true h1
    refine t_skip ?_
    refine t_seq ?_
    refine t_block ?_
    refine t_seq ?_
    refine t_region ?_
    refine r_op (o_move rfl rfl) ?_
    obtain ⟨z2, hz3, b4⟩ := at_get (xs := l) (n := (m : Int)) (by omega) (by omega)
    refine r_op (o_index rfl (by kernel_rfl) rfl rfl b4 hz3) ?_
    refine r_op (o_loadA rfl (n := 3) (by kernel_rfl) (by kernel_rfl) rfl rfl) ?_
    refine r_op (o_alloc 0 (zs := [.string (mkS ([])), .int .i64 (0), .bool (false)]) rfl rfl (by kernel_rfl) rfl) ?_
    refine r_op (o_assign rfl rfl) ?_
    refine r_op (o_storeb (n := 3) (by kernel_rfl) rfl rfl rfl rfl rfl rfl) ?_
    refine r_end ?_
    refine t_seq ?_
    refine t_draw (fun _ => true) (by kernel_rfl) ?_
    refine d_take 0 rfl rfl (by kernel_rfl) (by kernel_rfl) (by kernel_rfl) (p_loadAb (n := 3) (by kernel_rfl) (by kernel_rfl) rfl rfl rfl) ?_
    refine d_only 1 rfl (by kernel_rfl) rfl (o_call 1 1 false (Go.Proofs.enters_of Tryz.func151 (by kernel_rfl) rfl) (c_impl_IsValidRelation (z2.1) (z2.2.1) (z2.2.2)) rfl (.cons rfl (.agg (.cons .t0 (.cons .t0 (.cons .t0 .nil)))) .nil) rfl rfl rfl) ?_
    refine d_take 2 rfl rfl (by kernel_rfl) (by kernel_rfl) (by kernel_rfl) (p_not rfl) ?_
    refine d_take 3 rfl rfl (by kernel_rfl) (by kernel_rfl) (by kernel_rfl) (p_move rfl) ?_
    refine d_guard 4 rfl rfl (by kernel_rfl) (by kernel_rfl) (by kernel_rfl) rfl rfl (fun _ => p_move rfl) (fun g5 => ?_) (fun g5 => ?_)
    ·
      have g5' := (bnf g5)
      refine d_guard 5 rfl rfl (by kernel_rfl) (by kernel_rfl) (by kernel_rfl) rfl rfl (fun _ => p_bin rfl rfl rfl) (fun _ => ?_) (ncf g5)
      refine d_guard 6 rfl rfl (by kernel_rfl) (by kernel_rfl) (by kernel_rfl) rfl rfl (fun _ => p_move rfl) (fun _ => ?_) (ncf g5)
      refine d_guard 7 rfl rfl (by kernel_rfl) (by kernel_rfl) (by kernel_rfl) rfl rfl (fun _ => p_fieldb (off := 0) (by kernel_rfl) rfl) (fun g6 => ?_) (fun g6 => ?_)
      ·
        have g6' := of_decide_eq_true g6
        refine d_guard 8 rfl rfl (by kernel_rfl) (by kernel_rfl) (by kernel_rfl) rfl rfl (fun _ => p_load1b (by kernel_rfl) rfl rfl rfl) (fun _ => ?_) (nc g6)
        refine d_guard 9 rfl rfl (by kernel_rfl) (by kernel_rfl) (by kernel_rfl) rfl rfl (fun _ => p_move rfl) (fun _ => ?_) (nc g6)
        refine d_guard 10 rfl rfl (by kernel_rfl) (by kernel_rfl) (by kernel_rfl) rfl rfl (fun _ => p_move rfl) (fun _ => ?_) (nc g6)
        refine d_guard 11 rfl rfl (by kernel_rfl) (by kernel_rfl) (by kernel_rfl) rfl rfl (fun _ => p_bin rfl rfl rfl) (fun _ => ?_) (nc g6)
        obtain ⟨z7, hz8, b9⟩ := at_get (xs := l) (n := IntKind.i64.wrap ((m : Int) - 1)) (by (simp only [IntKind.wrap_i64]; omega)) (by (simp only [IntKind.wrap_i64]; omega))
        refine d_guard 12 rfl rfl (by kernel_rfl) (by kernel_rfl) (by kernel_rfl) rfl rfl (fun _ => p_index (by kernel_rfl) rfl rfl b9 hz8) (fun _ => ?_) (nc g6)
        refine d_guard 13 rfl rfl (by kernel_rfl) (by kernel_rfl) (by kernel_rfl) rfl rfl (fun _ => p_field (off := 0) (by kernel_rfl) rfl) (fun _ => ?_) (nc g6)
        refine d_guard 14 rfl rfl (by kernel_rfl) (by kernel_rfl) (by kernel_rfl) rfl rfl (fun _ => p_load1 (by kernel_rfl) rfl rfl) (fun _ => ?_) (nc g6)
        refine d_guard 15 rfl rfl (by kernel_rfl) (by kernel_rfl) (by kernel_rfl) rfl rfl (fun _ => p_str rfl rfl rfl) (fun _ => ?_) (nc g6)
        refine d_guard 16 rfl rfl (by kernel_rfl) (by kernel_rfl) (by kernel_rfl) rfl rfl (fun _ => p_pickT rfl g6 rfl) (fun _ => ?_) (ncf g5)
        refine d_take 17 rfl rfl (by kernel_rfl) (by kernel_rfl) (by kernel_rfl) (p_pickF rfl g5 rfl) ?_
        refine d_end (by kernel_rfl) ?_
        refine t_cond rfl (fun h10 => ?_) (fun h10 => ?_)
        ·
          have h10' := (bnt h10)
          refine t_seq ?_
          refine t_region ?_
          refine r_op (o_assign rfl rfl) ?_
          refine r_end ?_
          refine t_ret Tryz.func97 (.tmp rfl .nil) rfl fun E S w u hI hd => ?_
          refine post_mk hI hd ?_ trivial rfl rfl rfl <;> clear hI hd <;> (try clear ih0)
          all_goals (rw [relsOk_not (m := m) (by omega) (relStep_pos (n := (IntKind.i64.wrap ((m : Int) - 1)).toNat) (by assumption) (by assumption) (by omega) (by simp only [IntKind.wrap_i64]; omega) (by assumption) (by assumption))])
        ·
          have h10' := (bnf h10)
          refine t_skip ?_
          refine t_endblock ?_
          refine t_region ?_
          refine r_op (o_bin rfl rfl rfl rfl) ?_
          refine r_op (o_move rfl rfl) ?_
          refine r_end ?_
          refine t_le ?_ (ih0 (m + 1) (by (try dsimp only); omega) (by (try dsimp only); exact ⟨by omega, step_all i2 (relStep_pos (n := (IntKind.i64.wrap ((m : Int) - 1)).toNat) (by assumption) (by assumption) (by omega) (by simp only [IntKind.wrap_i64]; omega) (by assumption) (by assumption))⟩))
          exact ⟨⟨rfl, ⟨rfl, ⟨rfl, ⟨(eqI (wr64 (by omega) (by omega))), trivial⟩⟩⟩⟩, trivial, rfl⟩
      ·
        have g6' := of_decide_eq_false g6
        refine d_guard 8 rfl rfl (by kernel_rfl) (by kernel_rfl) (by kernel_rfl) rfl rfl (v := .c .top) (ncf g6) (ncf g6) (fun _ => ?_)
        refine d_guard 9 rfl rfl (by kernel_rfl) (by kernel_rfl) (by kernel_rfl) rfl rfl (v := .c .top) (ncf g6) (ncf g6) (fun _ => ?_)
        refine d_guard 10 rfl rfl (by kernel_rfl) (by kernel_rfl) (by kernel_rfl) rfl rfl (v := .c .top) (ncf g6) (ncf g6) (fun _ => ?_)
        refine d_guard 11 rfl rfl (by kernel_rfl) (by kernel_rfl) (by kernel_rfl) rfl rfl (v := .c .top) (ncf g6) (ncf g6) (fun _ => ?_)
        refine d_guard 12 rfl rfl (by kernel_rfl) (by kernel_rfl) (by kernel_rfl) rfl rfl (v := .c .top) (ncf g6) (ncf g6) (fun _ => ?_)
        refine d_guard 13 rfl rfl (by kernel_rfl) (by kernel_rfl) (by kernel_rfl) rfl rfl (v := .c .top) (ncf g6) (ncf g6) (fun _ => ?_)
        refine d_guard 14 rfl rfl (by kernel_rfl) (by kernel_rfl) (by kernel_rfl) rfl rfl (v := .c .top) (ncf g6) (ncf g6) (fun _ => ?_)
        refine d_guard 15 rfl rfl (by kernel_rfl) (by kernel_rfl) (by kernel_rfl) rfl rfl (v := .c .top) (ncf g6) (ncf g6) (fun _ => ?_)
        refine d_guard 16 rfl rfl (by kernel_rfl) (by kernel_rfl) (by kernel_rfl) rfl rfl (fun _ => p_pickF rfl g6 rfl) (fun _ => ?_) (ncf g5)
        refine d_take 17 rfl rfl (by kernel_rfl) (by kernel_rfl) (by kernel_rfl) (p_pickF rfl g5 rfl) ?_
        refine d_end (by kernel_rfl) ?_
        refine t_cond rfl (ncf rfl) (fun _ => ?_)
        refine t_skip ?_
        refine t_endblock ?_
        refine t_region ?_
        refine r_op (o_bin rfl rfl rfl rfl) ?_
        refine r_op (o_move rfl rfl) ?_
        refine r_end ?_
        refine t_le ?_ (ih0 (m + 1) (by (try dsimp only); omega) (by (try dsimp only); exact ⟨by omega, step_all i2 (relStep_zero (by assumption) (by assumption) (by omega))⟩))
        exact ⟨⟨rfl, ⟨rfl, ⟨rfl, ⟨(eqI (wr64 (by omega) (by omega))), trivial⟩⟩⟩⟩, trivial, rfl⟩
    ·
      have g5' := (bnt g5)
      refine d_guard 5 rfl rfl (by kernel_rfl) (by kernel_rfl) (by kernel_rfl) rfl rfl (v := .c .top) (nc g5) (nc g5) (fun _ => ?_)
      refine d_guard 6 rfl rfl (by kernel_rfl) (by kernel_rfl) (by kernel_rfl) rfl rfl (v := .c .top) (nc g5) (nc g5) (fun _ => ?_)
      refine d_skip 7 rfl rfl (by kernel_rfl) (by kernel_rfl) (by kernel_rfl) rfl rfl ?_
      refine d_skip 8 rfl rfl (by kernel_rfl) (by kernel_rfl) (by kernel_rfl) rfl rfl ?_
      refine d_skip 9 rfl rfl (by kernel_rfl) (by kernel_rfl) (by kernel_rfl) rfl rfl ?_
      refine d_skip 10 rfl rfl (by kernel_rfl) (by kernel_rfl) (by kernel_rfl) rfl rfl ?_
      refine d_skip 11 rfl rfl (by kernel_rfl) (by kernel_rfl) (by kernel_rfl) rfl rfl ?_
      refine d_skip 12 rfl rfl (by kernel_rfl) (by kernel_rfl) (by kernel_rfl) rfl rfl ?_
      refine d_skip 13 rfl rfl (by kernel_rfl) (by kernel_rfl) (by kernel_rfl) rfl rfl ?_
      refine d_skip 14 rfl rfl (by kernel_rfl) (by kernel_rfl) (by kernel_rfl) rfl rfl ?_
      refine d_skip 15 rfl rfl (by kernel_rfl) (by kernel_rfl) (by kernel_rfl) rfl rfl ?_
      refine d_guard 16 rfl rfl (by kernel_rfl) (by kernel_rfl) (by kernel_rfl) rfl rfl (v := .c .top) (nc g5) (nc g5) (fun _ => ?_)
      refine d_take 17 rfl rfl (by kernel_rfl) (by kernel_rfl) (by kernel_rfl) (p_pickT rfl g5 rfl) ?_
      refine d_end (by kernel_rfl) ?_
      refine t_cond rfl (fun _ => ?_) (nc rfl)
      refine t_seq ?_
      refine t_region ?_
      refine r_op (o_assign rfl rfl) ?_
      refine r_end ?_
      refine t_ret Tryz.func97 (.tmp rfl .nil) rfl fun E S w u hI hd => ?_
      refine post_mk hI hd ?_ trivial rfl rfl rfl <;> clear hI hd <;> (try clear ih0)
      all_goals (rw [relsOk_not (m := m) (by omega) (relStep_bad (by assumption) (by assumption))])
  ·
    have h1' := of_decide_eq_false h1
    refine t_exit rfl ?_
    refine t_seq ?_
    refine t_region ?_
    refine r_op (o_move rfl rfl) ?_
    refine r_op (o_len rfl rfl rfl) ?_
    refine r_op (o_bin rfl rfl rfl rfl) ?_
    refine r_op (o_assign rfl rfl) ?_
    refine r_end ?_
    refine t_ret Tryz.func97 (.tmp rfl .nil) rfl fun E S w u hI hd => ?_
    refine post_mk hI hd ?_ trivial rfl rfl rfl <;> clear hI hd <;> (try clear ih0)
    all_goals (rw [relsOk_end (m := m) i2 (by omega)]; exact scD (by omega))
set_option maxHeartbeats 1000000 in
set_option maxRecDepth 10000 in
theorem c_slices_IndexFunc___int_int_ (l : List (Int)) (f : Nat) (cs : List ((Nat → T) × Nat)) (p : Int → Bool) (hl : l.length ≤ 9223372036854775807) (hf : ∀ x ∈ l, Fu Tryz.prog f ([.c (.t none (.v (.int .i64 (x))))] ++ pels cs) (.c (.t none (.v (.bool (p x)))))) : Pu Tryz.prog 180 [.c (.t none (.sl 1 encI (l))), .c (.fv f cs)] [] 0 (.c (.t none (.v (.int .i64 (idxI p l))))) := by
  refine pu_enter Tryz.func180 rfl (Nat.le_of_ble_eq_true rfl) fun w S => ?_
  refine t_seq ?_
  refine t_region ?_
  refine r_op (o_assign rfl rfl) ?_
  refine r_end ?_
  refine t_seq ?_
  refine t_seq ?_
  refine t_region ?_
  refine r_op (o_move rfl rfl) ?_
  refine r_op (o_len rfl rfl rfl) ?_
  refine r_op (o_move rfl rfl) ?_
  refine r_end ?_
  refine t_block ?_
  refine t_loopL (fun m => ⟨[(0, some (.c (.t none (.sl 1 encI (l))))), (1, some (.c (.fv f cs))), (7, some (.c (.t none (.v (.int .i64 (((l).length : Int))))))), (8, some (.c (.t none (.v (.int .i64 ((m : Int)))))))], [], 0⟩ : Nat → St) (fun m => m ≤ l.length ∧ ∀ j z, j < m → l[j]? = some z → p z = false) (fun m => l.length - m) 0 ⟨⟨rfl, ⟨rfl, ⟨rfl, ⟨rfl, trivial⟩⟩⟩⟩, trivial, rfl⟩ (by exact ⟨Nat.zero_le _, fun j z h => by omega⟩) ?_
  rintro m hI ih0
  try dsimp only at hI ih0
  obtain ⟨i1, i2⟩ := hI
  refine t_seq ?_
  refine t_region ?_
  refine r_op (o_bin rfl rfl rfl rfl) ?_
  refine r_end ?_
  refine t_seq ?_
  refine t_cond rfl (fun h1 => ?_) (fun h1 => ?_)
  ·
    have h1' := of_decide_eq_true h1
    refine t_skip ?_
    refine t_seq ?_
    refine t_block ?_
    refine t_seq ?_
    refine t_region ?_
    refine r_op (o_move rfl rfl) ?_
    refine r_op (o_assign rfl rfl) ?_
    refine r_end ?_
    refine t_seq ?_
    refine t_region ?_
    refine r_op (o_move rfl rfl) ?_
    refine r_op (o_move rfl rfl) ?_
    refine r_op (o_move rfl rfl) ?_
    obtain ⟨z2, hz3, b4⟩ := at_get (xs := l) (n := (m : Int)) (by omega) (by omega)
    refine r_op (o_index rfl (by kernel_rfl) rfl rfl b4 hz3) ?_
    refine r_op (o_load1 rfl (by kernel_rfl) rfl rfl) ?_
    refine r_op (o_callv 0 0 false (hf z2 (List.mem_of_getElem? (by assumption))).1 (hf z2 (List.mem_of_getElem? (by assumption))).2 rfl rfl (.c .fv) (.cons rfl (.c .t0) .nil) rfl rfl rfl) ?_
    refine r_end ?_
    refine t_cond rfl (fun h5 => ?_) (fun h5 => ?_)
    ·
      have h5' := h5
      refine t_seq ?_
      refine t_region ?_
      refine r_op (o_move rfl rfl) ?_
      refine r_op (o_assign rfl rfl) ?_
      refine r_end ?_
      refine t_ret Tryz.func180 (.tmp rfl .nil) rfl fun E S w u hI hd => ?_
      refine post_mk hI hd ?_ trivial rfl rfl rfl <;> clear hI hd <;> (try clear ih0)
      all_goals (rw [idx_hit i2 (by assumption) (by assumption)])
    ·
      have h5' := h5
      refine t_skip ?_
      refine t_endblock ?_
      refine t_region ?_
      refine r_op (o_bin rfl rfl rfl rfl) ?_
      refine r_op (o_move rfl rfl) ?_
      refine r_end ?_
      refine t_le ?_ (ih0 (m + 1) (by (try dsimp only); omega) (by (try dsimp only); exact ⟨by omega, no_step i2 (by assumption) rfl (by assumption)⟩))
      exact ⟨⟨rfl, ⟨rfl, ⟨rfl, ⟨(eqI (wr64 (by omega) (by omega))), trivial⟩⟩⟩⟩, trivial, rfl⟩
  ·
    have h1' := of_decide_eq_false h1
    refine t_exit rfl ?_
    refine t_seq ?_
    refine t_region ?_
    refine r_op (o_assign rfl rfl) ?_
    refine r_end ?_
    refine t_ret Tryz.func180 (.tmp rfl .nil) rfl fun E S w u hI hd => ?_
    refine post_mk hI hd ?_ trivial rfl rfl rfl <;> clear hI hd <;> (try clear ih0)
    all_goals (rw [idx_none i2 (by omega)])
set_option maxHeartbeats 1000000 in
set_option maxRecDepth 10000 in
theorem c_slices_ContainsFunc___int_int_ (l : List (Int)) (f : Nat) (cs : List ((Nat → T) × Nat)) (p : Int → Bool) (hl : l.length ≤ 9223372036854775807) (hf : ∀ x ∈ l, Fu Tryz.prog f ([.c (.t none (.v (.int .i64 (x))))] ++ pels cs) (.c (.t none (.v (.bool (p x)))))) : Pu Tryz.prog 152 [.c (.t none (.sl 1 encI (l))), .c (.fv f cs)] [] 0 (.c (.t none (.v (.bool (l.any p))))) := by
  refine pu_enter Tryz.func152 rfl (Nat.le_of_ble_eq_true rfl) fun w S => ?_
  refine t_seq ?_
  refine t_region ?_
  refine r_op (o_assign rfl rfl) ?_
  refine r_end ?_
  refine t_seq ?_
  refine t_region ?_
  refine r_op (o_move rfl rfl) ?_
  refine r_op (o_move rfl rfl) ?_
  refine r_op (o_call 0 0 false (Go.Proofs.enters_of Tryz.func180 (by kernel_rfl) rfl) (c_slices_IndexFunc___int_int_ (l) (f) (cs) (p) (by omega) (hf)) rfl (.cons rfl (.c .t0) (.cons rfl (.c .fv) .nil)) rfl rfl rfl) ?_
  refine r_op (o_bin rfl rfl rfl rfl) ?_
  refine r_op (o_assign rfl rfl) ?_
  refine r_end ?_
  refine t_ret Tryz.func152 (.tmp rfl .nil) rfl fun E S w u hI hd => ?_
  refine post_mk hI hd ?_ trivial rfl rfl rfl <;> clear hI hd
  all_goals (exact scB idx_any)
set_option maxHeartbeats 1000000 in
set_option maxRecDepth 10000 in
theorem c_impl_IsValidValue (v : Int) : Pu Tryz.prog 57 [.c (.t none (.v (.int .i64 (v))))] [] 0 (.c (.t none (.v (.bool (decide (-40 ≤ v ∧ v ≤ 9)))))) := by
  refine pu_enter Tryz.func57 rfl (Nat.le_of_ble_eq_true rfl) fun w S => ?_
  refine t_seq ?_
  refine t_region ?_
  refine r_op (o_assign rfl rfl) ?_
  refine r_end ?_
  refine t_seq ?_
  refine t_region ?_
  refine r_op (o_move rfl rfl) ?_
  refine r_op (o_call 0 0 false (Go.Proofs.enters_of Tryz.func117 (by kernel_rfl) rfl) (c_impl_within (v) (-40) (9)) rfl (.cons rfl (.c .t0) (.cons rfl (.c .t0) (.cons rfl (.c .t0) .nil))) rfl rfl rfl) ?_
  refine r_op (o_assign rfl rfl) ?_
  refine r_end ?_
  refine t_ret Tryz.func57 (.tmp rfl .nil) rfl fun E S w u hI hd => ?_
  refine post_mk hI hd ?_ trivial rfl rfl rfl <;> clear hI hd
  all_goals (rfl)
set_option maxHeartbeats 1000000 in
set_option maxRecDepth 10000 in
theorem c_impl_IsValidFact_1 (t : Int) : Pu Tryz.prog 153 [.c (.t none (.v (.int .i64 (t))))] [] 0 (.c (.t none (.v (.bool (!(valOk t)))))) := by
  refine pu_enter Tryz.func153 rfl (Nat.le_of_ble_eq_true rfl) fun w S => ?_
  refine t_seq ?_
  refine t_region ?_
  refine r_op (o_assign rfl rfl) ?_
  refine r_end ?_
  refine t_seq ?_
  refine t_region ?_
  refine r_op (o_move rfl rfl) ?_
  refine r_op (o_call 0 0 false (Go.Proofs.enters_of Tryz.func57 (by kernel_rfl) rfl) (c_impl_IsValidValue (t)) rfl (.cons rfl (.c .t0) .nil) rfl rfl rfl) ?_
  refine r_op (o_not rfl rfl) ?_
  refine r_op (o_assign rfl rfl) ?_
  refine r_end ?_
  refine t_ret Tryz.func153 (.tmp rfl .nil) rfl fun E S w u hI hd => ?_
  refine post_mk hI hd ?_ trivial rfl rfl rfl <;> clear hI hd
  all_goals (rfl)
set_option maxHeartbeats 1000000 in
set_option maxRecDepth 10000 in
theorem c_impl_IsValidFact (rs : List (List UInt8 × Int × Bool)) (r : Int) (ts : List Int) (hrs : rs.length ≤ 4611686018427387904) (hts : ts.length ≤ 4611686018427387904) (ho : ∀ x ∈ ts, okI x) : Pu Tryz.prog 98 [.c (.t none (.sl 3 (enS3 encS encI encB) (rs))), .agg [.t none (.v (.int .i64 (r))), .t none (.sl 1 encI (ts))]] [] 0 (.c (.t none (.v (.bool (factOk rs r ts))))) := by
  refine pu_enter Tryz.func98 rfl (Nat.le_of_ble_eq_true rfl) fun w S => ?_
  refine t_seq ?_
  refine t_region ?_
  refine r_op (o_box 0 rfl rfl rfl rfl) ?_
  refine r_op (o_assign rfl rfl) ?_
  refine r_end ?_
  refine t_seq ?_
  refine t_seq ?_
  refine t_draw (fun _ => true) (by kernel_rfl) ?_
  refine d_take 0 rfl rfl (by kernel_rfl) (by kernel_rfl) (by kernel_rfl) (p_move rfl) ?_
  refine d_only 1 rfl (by kernel_rfl) rfl (o_call 1 1 false (Go.Proofs.enters_of Tryz.func97 (by kernel_rfl) rfl) (c_impl_AreValidRelations (rs) (by omega)) rfl (.cons rfl (.c .t0) .nil) rfl rfl rfl) ?_
  refine d_take 2 rfl rfl (by kernel_rfl) (by kernel_rfl) (by kernel_rfl) (p_not rfl) ?_
  refine d_take 3 rfl rfl (by kernel_rfl) (by kernel_rfl) (by kernel_rfl) (p_move rfl) ?_
  refine d_guard 4 rfl rfl (by kernel_rfl) (by kernel_rfl) (by kernel_rfl) rfl rfl (fun _ => p_fieldb (off := 0) (by kernel_rfl) rfl) (fun g1 => ?_) (fun g1 => ?_)
  ·
    have g1' := (bnf g1)
    refine d_guard 5 rfl rfl (by kernel_rfl) (by kernel_rfl) (by kernel_rfl) rfl rfl (fun _ => p_load1b (by kernel_rfl) rfl rfl rfl) (fun _ => ?_) (ncf g1)
    refine d_guard 6 rfl rfl (by kernel_rfl) (by kernel_rfl) (by kernel_rfl) rfl rfl (fun _ => p_move rfl) (fun _ => ?_) (ncf g1)
    refine d_guard 7 rfl rfl (by kernel_rfl) (by kernel_rfl) (by kernel_rfl) rfl rfl (fun _ => p_len rfl rfl) (fun _ => ?_) (ncf g1)
    refine d_guard 8 rfl rfl (by kernel_rfl) (by kernel_rfl) (by kernel_rfl) rfl rfl (fun _ => p_bin rfl rfl rfl) (fun _ => ?_) (ncf g1)
    refine d_onlyG 9 rfl rfl (by kernel_rfl) rfl rfl rfl (fun _ => (o_call 1 1 false (Go.Proofs.enters_of Tryz.func117 (by kernel_rfl) rfl) (c_impl_within (r) (0) (IntKind.i64.wrap (((rs).length : Int) - 1))) rfl (.cons rfl (.c .t0) (.cons rfl (.c .t0) (.cons rfl (.c .t0) .nil))) rfl rfl rfl)) (fun _ => ?_) (ncf g1)
    refine d_guard 10 rfl rfl (by kernel_rfl) (by kernel_rfl) (by kernel_rfl) rfl rfl (fun _ => p_not rfl) (fun _ => ?_) (ncf g1)
    refine d_take 11 rfl rfl (by kernel_rfl) (by kernel_rfl) (by kernel_rfl) (p_pickF rfl g1 rfl) ?_
    refine d_take 12 rfl rfl (by kernel_rfl) (by kernel_rfl) (by kernel_rfl) (p_move rfl) ?_
    refine d_guard 13 rfl rfl (by kernel_rfl) (by kernel_rfl) (by kernel_rfl) rfl rfl (fun _ => p_fieldb (off := 1) (by kernel_rfl) rfl) (fun g2 => ?_) (fun g2 => ?_)
    ·
      have g2' := of_decide_eq_true (bnf g2)
      refine d_guard 14 rfl rfl (by kernel_rfl) (by kernel_rfl) (by kernel_rfl) rfl rfl (fun _ => p_load1b (by kernel_rfl) rfl rfl rfl) (fun _ => ?_) (ncf g2)
      refine d_guard 15 rfl rfl (by kernel_rfl) (by kernel_rfl) (by kernel_rfl) rfl rfl (fun _ => p_len rfl rfl) (fun _ => ?_) (ncf g2)
      refine d_guard 16 rfl rfl (by kernel_rfl) (by kernel_rfl) (by kernel_rfl) rfl rfl (fun _ => p_move rfl) (fun _ => ?_) (ncf g2)
      refine d_guard 17 rfl rfl (by kernel_rfl) (by kernel_rfl) (by kernel_rfl) rfl rfl (fun _ => p_fieldb (off := 0) (by kernel_rfl) rfl) (fun _ => ?_) (ncf g2)
      refine d_guard 18 rfl rfl (by kernel_rfl) (by kernel_rfl) (by kernel_rfl) rfl rfl (fun _ => p_load1b (by kernel_rfl) rfl rfl rfl) (fun _ => ?_) (ncf g2)
      obtain ⟨z3, hz4, b5⟩ := at_get (xs := rs) (n := r) (by omega) (by (simp only [IntKind.wrap_i64] at *; omega))
      refine d_guard 19 rfl rfl (by kernel_rfl) (by kernel_rfl) (by kernel_rfl) rfl rfl (fun _ => p_index (by kernel_rfl) rfl rfl b5 hz4) (fun _ => ?_) (ncf g2)
      refine d_guard 20 rfl rfl (by kernel_rfl) (by kernel_rfl) (by kernel_rfl) rfl rfl (fun _ => p_field (off := 1) (by kernel_rfl) rfl) (fun _ => ?_) (ncf g2)
      refine d_guard 21 rfl rfl (by kernel_rfl) (by kernel_rfl) (by kernel_rfl) rfl rfl (fun _ => p_load1 (by kernel_rfl) rfl rfl) (fun _ => ?_) (ncf g2)
      refine d_guard 22 rfl rfl (by kernel_rfl) (by kernel_rfl) (by kernel_rfl) rfl rfl (fun _ => p_bin rfl rfl rfl) (fun _ => ?_) (ncf g2)
      refine d_take 23 rfl rfl (by kernel_rfl) (by kernel_rfl) (by kernel_rfl) (p_pickF rfl g2 rfl) ?_
      refine d_end (by kernel_rfl) ?_
      refine t_cond rfl (fun h6 => ?_) (fun h6 => ?_)
      ·
        have h6' := of_decide_eq_true h6
        refine t_seq ?_
        refine t_region ?_
        refine r_op (o_assign rfl rfl) ?_
        refine r_end ?_
        refine t_ret Tryz.func98 (.tmp rfl .nil) rfl fun E S w u hI hd => ?_
        refine post_mk hI hd ?_ trivial rfl rfl rfl <;> clear hI hd
        all_goals (refine scB ?_; (rw [fact_no3 (by assumption) (by assumption)]; done))
      ·
        have h6' := of_decide_eq_false h6
        refine t_skip ?_
        refine t_seq ?_
        refine t_region ?_
        refine r_op (o_fieldb rfl (off := 1) (by kernel_rfl) rfl) ?_
        refine r_op (o_load1b rfl (by kernel_rfl) rfl rfl rfl) ?_
        refine r_op (o_call 1 1 false (Go.Proofs.enters_of Tryz.func152 (by kernel_rfl) rfl) (c_slices_ContainsFunc___int_int_ (ts) (153) ([]) (fun (x0 : Int) => !(valOk (x0))) (by omega) (fun x0 mx0 => ⟨Go.Proofs.enters_of Tryz.func153 (by kernel_rfl) rfl, c_impl_IsValidFact_1 (x0)⟩)) rfl (.cons rfl (.c .t0) (.cons rfl (.c (.clo .nil)) .nil)) rfl rfl rfl) ?_
        refine r_op (o_not rfl rfl) ?_
        refine r_op (o_assign rfl rfl) ?_
        refine r_end ?_
        refine t_ret Tryz.func98 (.tmp rfl .nil) rfl fun E S w u hI hd => ?_
        refine post_mk hI hd ?_ trivial rfl rfl rfl <;> clear hI hd
        all_goals (refine scB ?_; (rw [fact_yes (by assumption) (by simp only [IntKind.wrap_i64] at *; omega) (by assumption) (by omega)]; done))
    ·
      have g2' := of_decide_eq_false (bnt g2)
      refine d_guard 14 rfl rfl (by kernel_rfl) (by kernel_rfl) (by kernel_rfl) rfl rfl (v := .c .top) (nc g2) (nc g2) (fun _ => ?_)
      refine d_guard 15 rfl rfl (by kernel_rfl) (by kernel_rfl) (by kernel_rfl) rfl rfl (v := .c .top) (nc g2) (nc g2) (fun _ => ?_)
      refine d_guard 16 rfl rfl (by kernel_rfl) (by kernel_rfl) (by kernel_rfl) rfl rfl (v := .c .top) (nc g2) (nc g2) (fun _ => ?_)
      refine d_guard 17 rfl rfl (by kernel_rfl) (by kernel_rfl) (by kernel_rfl) rfl rfl (v := .c .top) (nc g2) (nc g2) (fun _ => ?_)
      refine d_guard 18 rfl rfl (by kernel_rfl) (by kernel_rfl) (by kernel_rfl) rfl rfl (v := .c .top) (nc g2) (nc g2) (fun _ => ?_)
      refine d_guard 19 rfl rfl (by kernel_rfl) (by kernel_rfl) (by kernel_rfl) rfl rfl (v := .c .top) (nc g2) (nc g2) (fun _ => ?_)
      refine d_guard 20 rfl rfl (by kernel_rfl) (by kernel_rfl) (by kernel_rfl) rfl rfl (v := .c .top) (nc g2) (nc g2) (fun _ => ?_)
      refine d_guard 21 rfl rfl (by kernel_rfl) (by kernel_rfl) (by kernel_rfl) rfl rfl (v := .c .top) (nc g2) (nc g2) (fun _ => ?_)
      refine d_guard 22 rfl rfl (by kernel_rfl) (by kernel_rfl) (by kernel_rfl) rfl rfl (v := .c .top) (nc g2) (nc g2) (fun _ => ?_)
      refine d_take 23 rfl rfl (by kernel_rfl) (by kernel_rfl) (by kernel_rfl) (p_pickT rfl g2 rfl) ?_
      refine d_end (by kernel_rfl) ?_
      refine t_cond rfl (fun _ => ?_) (nc rfl)
      refine t_seq ?_
      refine t_region ?_
      refine r_op (o_assign rfl rfl) ?_
      refine r_end ?_
      refine t_ret Tryz.func98 (.tmp rfl .nil) rfl fun E S w u hI hd => ?_
      refine post_mk hI hd ?_ trivial rfl rfl rfl <;> clear hI hd
      all_goals (refine scB ?_; (rw [fact_no2 (by simp only [IntKind.wrap_i64] at *; omega)]; done))
  ·
    have g1' := (bnt g1)
    refine d_guard 5 rfl rfl (by kernel_rfl) (by kernel_rfl) (by kernel_rfl) rfl rfl (v := .c .top) (nc g1) (nc g1) (fun _ => ?_)
    refine d_guard 6 rfl rfl (by kernel_rfl) (by kernel_rfl) (by kernel_rfl) rfl rfl (v := .c .top) (nc g1) (nc g1) (fun _ => ?_)
    refine d_guard 7 rfl rfl (by kernel_rfl) (by kernel_rfl) (by kernel_rfl) rfl rfl (v := .c .top) (nc g1) (nc g1) (fun _ => ?_)
    refine d_guard 8 rfl rfl (by kernel_rfl) (by kernel_rfl) (by kernel_rfl) rfl rfl (v := .c .top) (nc g1) (nc g1) (fun _ => ?_)
    refine d_guard 9 rfl rfl (by kernel_rfl) (by kernel_rfl) (by kernel_rfl) rfl rfl (v := .c .top) (nc g1) (nc g1) (fun _ => ?_)
    refine d_guard 10 rfl rfl (by kernel_rfl) (by kernel_rfl) (by kernel_rfl) rfl rfl (v := .c .top) (nc g1) (nc g1) (fun _ => ?_)
    refine d_take 11 rfl rfl (by kernel_rfl) (by kernel_rfl) (by kernel_rfl) (p_pickT rfl g1 rfl) ?_
    refine d_take 12 rfl rfl (by kernel_rfl) (by kernel_rfl) (by kernel_rfl) (p_move rfl) ?_
    refine d_guard 13 rfl rfl (by kernel_rfl) (by kernel_rfl) (by kernel_rfl) rfl rfl (v := .c .top) (nc rfl) (nc rfl) (fun _ => ?_)
    refine d_guard 14 rfl rfl (by kernel_rfl) (by kernel_rfl) (by kernel_rfl) rfl rfl (v := .c .top) (nc rfl) (nc rfl) (fun _ => ?_)
    refine d_guard 15 rfl rfl (by kernel_rfl) (by kernel_rfl) (by kernel_rfl) rfl rfl (v := .c .top) (nc rfl) (nc rfl) (fun _ => ?_)
    refine d_guard 16 rfl rfl (by kernel_rfl) (by kernel_rfl) (by kernel_rfl) rfl rfl (v := .c .top) (nc rfl) (nc rfl) (fun _ => ?_)
    refine d_guard 17 rfl rfl (by kernel_rfl) (by kernel_rfl) (by kernel_rfl) rfl rfl (v := .c .top) (nc rfl) (nc rfl) (fun _ => ?_)
    refine d_guard 18 rfl rfl (by kernel_rfl) (by kernel_rfl) (by kernel_rfl) rfl rfl (v := .c .top) (nc rfl) (nc rfl) (fun _ => ?_)
    refine d_guard 19 rfl rfl (by kernel_rfl) (by kernel_rfl) (by kernel_rfl) rfl rfl (v := .c .top) (nc rfl) (nc rfl) (fun _ => ?_)
    refine d_guard 20 rfl rfl (by kernel_rfl) (by kernel_rfl) (by kernel_rfl) rfl rfl (v := .c .top) (nc rfl) (nc rfl) (fun _ => ?_)
    refine d_guard 21 rfl rfl (by kernel_rfl) (by kernel_rfl) (by kernel_rfl) rfl rfl (v := .c .top) (nc rfl) (nc rfl) (fun _ => ?_)
    refine d_guard 22 rfl rfl (by kernel_rfl) (by kernel_rfl) (by kernel_rfl) rfl rfl (v := .c .top) (nc rfl) (nc rfl) (fun _ => ?_)
    refine d_take 23 rfl rfl (by kernel_rfl) (by kernel_rfl) (by kernel_rfl) (p_pickT rfl rfl rfl) ?_
    refine d_end (by kernel_rfl) ?_
    refine t_cond rfl (fun _ => ?_) (nc rfl)
    refine t_seq ?_
    refine t_region ?_
    refine r_op (o_assign rfl rfl) ?_
    refine r_end ?_
    refine t_ret Tryz.func98 (.tmp rfl .nil) rfl fun E S w u hI hd => ?_
    refine post_mk hI hd ?_ trivial rfl rfl rfl <;> clear hI hd
    all_goals (refine scB ?_; (rw [fact_no1 (by assumption)]; done))
set_option maxHeartbeats 1000000 in
set_option maxRecDepth 10000 in
theorem c_cmp_isNaN_int_ (x : Int) : Pu Tryz.prog 181 [.c (.t none (.v (.int .i64 (x))))] [] 0 (.c (.t none (.v (.bool (false))))) := by
  refine pu_enter Tryz.func181 rfl (Nat.le_of_ble_eq_true rfl) fun w S => ?_
  refine t_seq ?_
  refine t_region ?_
  refine r_op (o_assign rfl rfl) ?_
  refine r_end ?_
  refine t_seq ?_
  refine t_region ?_
  refine r_op (o_move rfl rfl) ?_
  refine r_op (o_move rfl rfl) ?_
  refine r_op (o_bin rfl rfl rfl rfl) ?_
  refine r_op (o_assign rfl rfl) ?_
  refine r_end ?_
  refine t_ret Tryz.func181 (.tmp rfl .nil) rfl fun E S w u hI hd => ?_
  refine post_mk hI hd ?_ trivial rfl rfl rfl <;> clear hI hd
  all_goals (simp)
end Go.Eng
