/- A part of the proof: the walks of this law's functions, and plain laws. -/
import Derived.Test.YtihdifmachfdbaaQ1
section
namespace Go.Sim
open Go Go.Proofs
set_option maxRecDepth 10000
set_option autoImplicit false
set_option linter.unusedSimpArgs false
set_option linter.unusedVariables false
theorem samples_ok (d n c lot : Int) : CS Try.prog 6 [.int .u64 d, planV n c, .int .i64 lot] (.bool true) := by
  refine fn_c [6] Try.func6 Try.ntmps6 rfl rfl rfl rfl ?_
  refine aw_seq ?_
  refine aw_reg _ (by kernel_rfl) rfl ?_
  iterate 2 refine st (m := false) tabok rfl rfl rfl (by (repeat' apply And.intro); all_goals first | exact True.intro | rfl | omega | (simp only [inr]; omega) | (simp only [IntKind.bits]; omega) | exact fun h => h | (intro hq; rw [hq]; rfl) | (simp only [Int.toNat_natCast, dflt_i, dflt_b, dflt_l, dflt_p, Int.toNat_zero, gt_iff_lt, ge_iff_le]; omega) | (simp only [ti3, ti4, ti23, ti46]; omega) | (simp [ti3, ti4, ti23, ti46]; omega) | (simp_all; done) | (simp [SV.cellsL, SV.cells]; done) | (simp [SV.cellsL, SV.cells]; omega)) ?_
  refine ops_nil ?_
  refine aw_seq ?_
  refine aw_reg _ (by kernel_rfl) rfl ?_
  iterate 3 refine st (m := false) tabok rfl rfl rfl (by (repeat' apply And.intro); all_goals first | exact True.intro | rfl | omega | (simp only [inr]; omega) | (simp only [IntKind.bits]; omega) | exact fun h => h | (intro hq; rw [hq]; rfl) | (simp only [Int.toNat_natCast, dflt_i, dflt_b, dflt_l, dflt_p, Int.toNat_zero, gt_iff_lt, ge_iff_le]; omega) | (simp only [ti3, ti4, ti23, ti46]; omega) | (simp [ti3, ti4, ti23, ti46]; omega) | (simp_all; done) | (simp [SV.cellsL, SV.cells]; done) | (simp [SV.cellsL, SV.cells]; omega)) ?_
  refine sc (draw_ok d n c lot) rfl rfl (by kernel_rfl) rfl (by kernel_rfl) (.cons (by first | exact argw_same | exact argw_nil | exact argw_tt | exact argw_ff | exact argw_eq rfl) (.cons (by first | exact argw_same | exact argw_nil | exact argw_tt | exact argw_ff | exact argw_eq rfl) (.cons (by first | exact argw_same | exact argw_nil | exact argw_tt | exact argw_ff | exact argw_eq rfl) .nil))) ?_
  iterate 7 refine st (m := false) tabok rfl rfl rfl (by (repeat' apply And.intro); all_goals first | exact True.intro | rfl | omega | (simp only [inr]; omega) | (simp only [IntKind.bits]; omega) | exact fun h => h | (intro hq; rw [hq]; rfl) | (simp only [Int.toNat_natCast, dflt_i, dflt_b, dflt_l, dflt_p, Int.toNat_zero, gt_iff_lt, ge_iff_le]; omega) | (simp only [ti3, ti4, ti23, ti46]; omega) | (simp [ti3, ti4, ti23, ti46]; omega) | (simp_all; done) | (simp [SV.cellsL, SV.cells]; done) | (simp [SV.cellsL, SV.cells]; omega)) ?_
  refine ops_nil ?_
  refine aw_seq ?_
  refine aw_seq ?_
  refine aw_reg _ (by kernel_rfl) rfl ?_
  iterate 2 refine st (m := false) tabok rfl rfl rfl (by (repeat' apply And.intro); all_goals first | exact True.intro | rfl | omega | (simp only [inr]; omega) | (simp only [IntKind.bits]; omega) | exact fun h => h | (intro hq; rw [hq]; rfl) | (simp only [Int.toNat_natCast, dflt_i, dflt_b, dflt_l, dflt_p, Int.toNat_zero, gt_iff_lt, ge_iff_le]; omega) | (simp only [ti3, ti4, ti23, ti46]; omega) | (simp [ti3, ti4, ti23, ti46]; omega) | (simp_all; done) | (simp [SV.cellsL, SV.cells]; done) | (simp [SV.cellsL, SV.cells]; omega)) ?_
  refine ops_nil ?_
  refine aw_if rfl (fun c2 => ?_) (fun c2 => ?_)
  · try simp only [Bool.or_eq_true, Bool.and_eq_true, Bool.not_eq_true', Bool.not_eq_false', Bool.or_eq_false_iff, Bool.and_eq_false_imp, decide_eq_true_eq, decide_eq_false_iff_not, Bool.not_true, Bool.not_false, beq_iff_eq, Bool.not_eq_true, Bool.not_eq_false, Bool.true_eq_false, Bool.false_eq_true, not_or, Decidable.not_not, ne_eq] at c2
    try simp only [Int.toNat_natCast, dflt_i, dflt_b, dflt_l, dflt_p, Int.toNat_zero, gt_iff_lt, ge_iff_le] at c2
    refine aw_seq ?_
    refine aw_reg _ (by kernel_rfl) rfl ?_
    iterate 4 refine st (m := false) tabok rfl rfl rfl (by (repeat' apply And.intro); all_goals first | exact True.intro | rfl | omega | (simp only [inr]; omega) | (simp only [IntKind.bits]; omega) | exact fun h => h | (intro hq; rw [hq]; rfl) | (simp only [Int.toNat_natCast, dflt_i, dflt_b, dflt_l, dflt_p, Int.toNat_zero, gt_iff_lt, ge_iff_le]; omega) | (simp only [ti3, ti4, ti23, ti46]; omega) | (simp [ti3, ti4, ti23, ti46]; omega) | (simp_all; done) | (simp [SV.cellsL, SV.cells]; done) | (simp [SV.cellsL, SV.cells]; omega)) ?_
    iterate 2 refine stg (m := false) tabok rfl rfl rfl rfl rfl (by intro hg; have hg0 := hg; (try simp only [Bool.or_eq_true, Bool.and_eq_true, Bool.not_eq_true', Bool.not_eq_false', Bool.or_eq_false_iff, Bool.and_eq_false_imp, decide_eq_true_eq, decide_eq_false_iff_not, Bool.not_true, Bool.not_false, beq_iff_eq, Bool.not_eq_true, Bool.not_eq_false, Bool.true_eq_false, Bool.false_eq_true, not_or, Decidable.not_not, ne_eq] at hg); (try simp only [Int.toNat_natCast, dflt_i, dflt_b, dflt_l, dflt_p, Int.toNat_zero, gt_iff_lt, ge_iff_le] at hg); (repeat' apply And.intro); all_goals first | exact hg0 | exact True.intro | rfl | omega | (simp only [inr]; omega) | (simp only [IntKind.bits]; omega) | (simp only [Bool.or_eq_true, Bool.and_eq_true, Bool.not_eq_true', Bool.not_eq_false', Bool.or_eq_false_iff, Bool.and_eq_false_imp, decide_eq_true_eq, decide_eq_false_iff_not, Bool.not_true, Bool.not_false, beq_iff_eq, Bool.not_eq_true, Bool.not_eq_false, Bool.true_eq_false, Bool.false_eq_true, not_or, Decidable.not_not, ne_eq]; omega) | (simp only [inr, Int.toNat_natCast, dflt_i, dflt_b, dflt_l, dflt_p, Int.toNat_zero, gt_iff_lt, ge_iff_le]; omega) | (simp only [Int.toNat_natCast, dflt_i, dflt_b, dflt_l, dflt_p, Int.toNat_zero, gt_iff_lt, ge_iff_le]; omega) | (simp only [Bool.or_eq_true, Bool.and_eq_true, Bool.not_eq_true', Bool.not_eq_false', Bool.or_eq_false_iff, Bool.and_eq_false_imp, decide_eq_true_eq, decide_eq_false_iff_not, Bool.not_true, Bool.not_false, beq_iff_eq, Bool.not_eq_true, Bool.not_eq_false, Bool.true_eq_false, Bool.false_eq_true, not_or, Decidable.not_not, ne_eq] at hg0 ⊢; simp_all; done) | (simp_all; done) | (simp_all; omega)) ?_
    refine scg (fun hg => check_ok n c lot) rfl rfl rfl rfl (by kernel_rfl) rfl (by kernel_rfl) (fun hg => (.cons (by first | exact argw_same | exact argw_nil | exact argw_tt | exact argw_ff | exact argw_eq rfl) (.cons (by first | exact argw_same | exact argw_nil | exact argw_tt | exact argw_ff | exact argw_eq rfl) .nil))) rfl (by intro hg; have hg0 := hg; (try simp only [Bool.or_eq_true, Bool.and_eq_true, Bool.not_eq_true', Bool.not_eq_false', Bool.or_eq_false_iff, Bool.and_eq_false_imp, decide_eq_true_eq, decide_eq_false_iff_not, Bool.not_true, Bool.not_false, beq_iff_eq, Bool.not_eq_true, Bool.not_eq_false, Bool.true_eq_false, Bool.false_eq_true, not_or, Decidable.not_not, ne_eq] at hg); (try simp only [Int.toNat_natCast, dflt_i, dflt_b, dflt_l, dflt_p, Int.toNat_zero, gt_iff_lt, ge_iff_le] at hg); (repeat' apply And.intro); all_goals first | exact hg0 | exact True.intro | rfl | omega | (simp only [inr]; omega) | (simp only [IntKind.bits]; omega) | (simp only [Bool.or_eq_true, Bool.and_eq_true, Bool.not_eq_true', Bool.not_eq_false', Bool.or_eq_false_iff, Bool.and_eq_false_imp, decide_eq_true_eq, decide_eq_false_iff_not, Bool.not_true, Bool.not_false, beq_iff_eq, Bool.not_eq_true, Bool.not_eq_false, Bool.true_eq_false, Bool.false_eq_true, not_or, Decidable.not_not, ne_eq]; omega) | (simp only [inr, Int.toNat_natCast, dflt_i, dflt_b, dflt_l, dflt_p, Int.toNat_zero, gt_iff_lt, ge_iff_le]; omega) | (simp only [Int.toNat_natCast, dflt_i, dflt_b, dflt_l, dflt_p, Int.toNat_zero, gt_iff_lt, ge_iff_le]; omega) | (simp only [Bool.or_eq_true, Bool.and_eq_true, Bool.not_eq_true', Bool.not_eq_false', Bool.or_eq_false_iff, Bool.and_eq_false_imp, decide_eq_true_eq, decide_eq_false_iff_not, Bool.not_true, Bool.not_false, beq_iff_eq, Bool.not_eq_true, Bool.not_eq_false, Bool.true_eq_false, Bool.false_eq_true, not_or, Decidable.not_not, ne_eq] at hg0 ⊢; simp_all; done) | (simp_all; done) | (simp_all; omega)) ?_
    iterate 2 refine stg (m := false) tabok rfl rfl rfl rfl rfl (by intro hg; have hg0 := hg; (try simp only [Bool.or_eq_true, Bool.and_eq_true, Bool.not_eq_true', Bool.not_eq_false', Bool.or_eq_false_iff, Bool.and_eq_false_imp, decide_eq_true_eq, decide_eq_false_iff_not, Bool.not_true, Bool.not_false, beq_iff_eq, Bool.not_eq_true, Bool.not_eq_false, Bool.true_eq_false, Bool.false_eq_true, not_or, Decidable.not_not, ne_eq] at hg); (try simp only [Int.toNat_natCast, dflt_i, dflt_b, dflt_l, dflt_p, Int.toNat_zero, gt_iff_lt, ge_iff_le] at hg); (repeat' apply And.intro); all_goals first | exact hg0 | exact True.intro | rfl | omega | (simp only [inr]; omega) | (simp only [IntKind.bits]; omega) | (simp only [Bool.or_eq_true, Bool.and_eq_true, Bool.not_eq_true', Bool.not_eq_false', Bool.or_eq_false_iff, Bool.and_eq_false_imp, decide_eq_true_eq, decide_eq_false_iff_not, Bool.not_true, Bool.not_false, beq_iff_eq, Bool.not_eq_true, Bool.not_eq_false, Bool.true_eq_false, Bool.false_eq_true, not_or, Decidable.not_not, ne_eq]; omega) | (simp only [inr, Int.toNat_natCast, dflt_i, dflt_b, dflt_l, dflt_p, Int.toNat_zero, gt_iff_lt, ge_iff_le]; omega) | (simp only [Int.toNat_natCast, dflt_i, dflt_b, dflt_l, dflt_p, Int.toNat_zero, gt_iff_lt, ge_iff_le]; omega) | (simp only [Bool.or_eq_true, Bool.and_eq_true, Bool.not_eq_true', Bool.not_eq_false', Bool.or_eq_false_iff, Bool.and_eq_false_imp, decide_eq_true_eq, decide_eq_false_iff_not, Bool.not_true, Bool.not_false, beq_iff_eq, Bool.not_eq_true, Bool.not_eq_false, Bool.true_eq_false, Bool.false_eq_true, not_or, Decidable.not_not, ne_eq] at hg0 ⊢; simp_all; done) | (simp_all; done) | (simp_all; omega)) ?_
    iterate 2 refine st (m := false) tabok rfl rfl rfl (by (repeat' apply And.intro); all_goals first | exact True.intro | rfl | omega | (simp only [inr]; omega) | (simp only [IntKind.bits]; omega) | exact fun h => h | (intro hq; rw [hq]; rfl) | (simp only [Int.toNat_natCast, dflt_i, dflt_b, dflt_l, dflt_p, Int.toNat_zero, gt_iff_lt, ge_iff_le]; omega) | (simp only [ti3, ti4, ti23, ti46]; omega) | (simp [ti3, ti4, ti23, ti46]; omega) | (simp_all; done) | (simp [SV.cellsL, SV.cells]; done) | (simp [SV.cellsL, SV.cells]; omega)) ?_
    refine scg (fun hg => alive_ok) rfl rfl rfl rfl (by kernel_rfl) rfl (by kernel_rfl) (fun hg => .nil) rfl (by intro hg; have hg0 := hg; (try simp only [Bool.or_eq_true, Bool.and_eq_true, Bool.not_eq_true', Bool.not_eq_false', Bool.or_eq_false_iff, Bool.and_eq_false_imp, decide_eq_true_eq, decide_eq_false_iff_not, Bool.not_true, Bool.not_false, beq_iff_eq, Bool.not_eq_true, Bool.not_eq_false, Bool.true_eq_false, Bool.false_eq_true, not_or, Decidable.not_not, ne_eq] at hg); (try simp only [Int.toNat_natCast, dflt_i, dflt_b, dflt_l, dflt_p, Int.toNat_zero, gt_iff_lt, ge_iff_le] at hg); (repeat' apply And.intro); all_goals first | exact hg0 | exact True.intro | rfl | omega | (simp only [inr]; omega) | (simp only [IntKind.bits]; omega) | (simp only [Bool.or_eq_true, Bool.and_eq_true, Bool.not_eq_true', Bool.not_eq_false', Bool.or_eq_false_iff, Bool.and_eq_false_imp, decide_eq_true_eq, decide_eq_false_iff_not, Bool.not_true, Bool.not_false, beq_iff_eq, Bool.not_eq_true, Bool.not_eq_false, Bool.true_eq_false, Bool.false_eq_true, not_or, Decidable.not_not, ne_eq]; omega) | (simp only [inr, Int.toNat_natCast, dflt_i, dflt_b, dflt_l, dflt_p, Int.toNat_zero, gt_iff_lt, ge_iff_le]; omega) | (simp only [Int.toNat_natCast, dflt_i, dflt_b, dflt_l, dflt_p, Int.toNat_zero, gt_iff_lt, ge_iff_le]; omega) | (simp only [Bool.or_eq_true, Bool.and_eq_true, Bool.not_eq_true', Bool.not_eq_false', Bool.or_eq_false_iff, Bool.and_eq_false_imp, decide_eq_true_eq, decide_eq_false_iff_not, Bool.not_true, Bool.not_false, beq_iff_eq, Bool.not_eq_true, Bool.not_eq_false, Bool.true_eq_false, Bool.false_eq_true, not_or, Decidable.not_not, ne_eq] at hg0 ⊢; simp_all; done) | (simp_all; done) | (simp_all; omega)) ?_
    iterate 2 refine st (m := false) tabok rfl rfl rfl (by (repeat' apply And.intro); all_goals first | exact True.intro | rfl | omega | (simp only [inr]; omega) | (simp only [IntKind.bits]; omega) | exact fun h => h | (intro hq; rw [hq]; rfl) | (simp only [Int.toNat_natCast, dflt_i, dflt_b, dflt_l, dflt_p, Int.toNat_zero, gt_iff_lt, ge_iff_le]; omega) | (simp only [ti3, ti4, ti23, ti46]; omega) | (simp [ti3, ti4, ti23, ti46]; omega) | (simp_all; done) | (simp [SV.cellsL, SV.cells]; done) | (simp [SV.cellsL, SV.cells]; omega)) ?_
    refine ops_nil ?_
    refine aw_ret ?_
    -- leaf ret.2t
    refine ret_c ?_
    have e2 : drawL d n c lot = [] := by unfold drawL; rw [if_neg (by omega)]
    refine fs_bool ?_
    simp [e2]
  · try simp only [Bool.or_eq_true, Bool.and_eq_true, Bool.not_eq_true', Bool.not_eq_false', Bool.or_eq_false_iff, Bool.and_eq_false_imp, decide_eq_true_eq, decide_eq_false_iff_not, Bool.not_true, Bool.not_false, beq_iff_eq, Bool.not_eq_true, Bool.not_eq_false, Bool.true_eq_false, Bool.false_eq_true, not_or, Decidable.not_not, ne_eq] at c2
    try simp only [Int.toNat_natCast, dflt_i, dflt_b, dflt_l, dflt_p, Int.toNat_zero, gt_iff_lt, ge_iff_le] at c2
    have hc : checkS n c lot = 0 := by omega
    have hz := check_zero hc
    have eL : drawL d n c lot = smpL d lot n.toNat := by unfold drawL; rw [if_pos hc]
    have hle : n.toNat ≤ (cn lot).toNat := by omega
    have hlen := smpL_len (d := d) hle
    refine aw_skip ?_
    refine aw_seq ?_
    refine aw_seq ?_
    refine aw_reg _ (by kernel_rfl) rfl ?_
    iterate 5 refine st (m := false) tabok rfl rfl rfl (by (repeat' apply And.intro); all_goals first | exact True.intro | rfl | omega | (simp only [inr]; omega) | (simp only [IntKind.bits]; omega) | exact fun h => h | (intro hq; rw [hq]; rfl) | (simp only [Int.toNat_natCast, dflt_i, dflt_b, dflt_l, dflt_p, Int.toNat_zero, gt_iff_lt, ge_iff_le]; omega) | (simp only [ti3, ti4, ti23, ti46]; omega) | (simp [ti3, ti4, ti23, ti46]; omega) | (simp_all; done) | (simp [SV.cellsL, SV.cells]; done) | (simp [SV.cellsL, SV.cells]; omega)) ?_
    refine ops_nil ?_
    refine aw_if rfl (fun c4 => ?_) (fun c4 => ?_)
    · try simp only [Bool.or_eq_true, Bool.and_eq_true, Bool.not_eq_true', Bool.not_eq_false', Bool.or_eq_false_iff, Bool.and_eq_false_imp, decide_eq_true_eq, decide_eq_false_iff_not, Bool.not_true, Bool.not_false, beq_iff_eq, Bool.not_eq_true, Bool.not_eq_false, Bool.true_eq_false, Bool.false_eq_true, not_or, Decidable.not_not, ne_eq] at c4
      try simp only [Int.toNat_natCast, dflt_i, dflt_b, dflt_l, dflt_p, Int.toNat_zero, gt_iff_lt, ge_iff_le] at c4
      refine aw_seq ?_
      refine aw_reg _ (by kernel_rfl) rfl ?_
      refine st (m := false) tabok rfl rfl rfl (by (repeat' apply And.intro); all_goals first | exact True.intro | rfl | omega | (simp only [inr]; omega) | (simp only [IntKind.bits]; omega) | exact fun h => h | (intro hq; rw [hq]; rfl) | (simp only [Int.toNat_natCast, dflt_i, dflt_b, dflt_l, dflt_p, Int.toNat_zero, gt_iff_lt, ge_iff_le]; omega) | (simp only [ti3, ti4, ti23, ti46]; omega) | (simp [ti3, ti4, ti23, ti46]; omega) | (simp_all; done) | (simp [SV.cellsL, SV.cells]; done) | (simp [SV.cellsL, SV.cells]; omega)) ?_
      refine ops_nil ?_
      refine aw_ret ?_
      -- leaf ret.2f.4t
      refine ret_c ?_
      exfalso
      rw [eL, hlen] at c4
      omega
    · try simp only [Bool.or_eq_true, Bool.and_eq_true, Bool.not_eq_true', Bool.not_eq_false', Bool.or_eq_false_iff, Bool.and_eq_false_imp, decide_eq_true_eq, decide_eq_false_iff_not, Bool.not_true, Bool.not_false, beq_iff_eq, Bool.not_eq_true, Bool.not_eq_false, Bool.true_eq_false, Bool.false_eq_true, not_or, Decidable.not_not, ne_eq] at c4
      try simp only [Int.toNat_natCast, dflt_i, dflt_b, dflt_l, dflt_p, Int.toNat_zero, gt_iff_lt, ge_iff_le] at c4
      refine aw_skip ?_
      refine aw_seq ?_
      refine aw_seq ?_
      refine aw_reg _ (by kernel_rfl) rfl ?_
      iterate 3 refine st (m := false) tabok rfl rfl rfl (by (repeat' apply And.intro); all_goals first | exact True.intro | rfl | omega | (simp only [inr]; omega) | (simp only [IntKind.bits]; omega) | exact fun h => h | (intro hq; rw [hq]; rfl) | (simp only [Int.toNat_natCast, dflt_i, dflt_b, dflt_l, dflt_p, Int.toNat_zero, gt_iff_lt, ge_iff_le]; omega) | (simp only [ti3, ti4, ti23, ti46]; omega) | (simp [ti3, ti4, ti23, ti46]; omega) | (simp_all; done) | (simp [SV.cellsL, SV.cells]; done) | (simp [SV.cellsL, SV.cells]; omega)) ?_
      refine ops_nil ?_
      refine aw_block ?_
      refine aw_loop (X := (Nat)) (fun (i : Nat) => outT (look [(2, .int .i64 lot), (8, .row TI64 (smpL d lot n.toNat)), (40, .row TI64 (smpL d lot n.toNat)), (41, .int .i64 n.toNat), (42, .int .i64 i)])) (fun (i : Nat) => outS []) (fun (i : Nat) => (i ≤ n.toNat)) (fun (i : Nat) => n.toNat - i) (0) ?_ ?_ ?_
      -- leaf L0:entry.2f.4f
      · exact goes_to (tm := _) (st := _) [] rfl rfl True.intro ⟨(by first | exact sk rfl rfl | exact sk (q_int (by omega)) rfl | exact sk (q_bool (by simp)) rfl | exact sk (q_view rfl rfl rfl (by omega)) rfl | exact sk (q_gview rfl (by simp)) rfl | exact sk (q_nil rfl) rfl | exact sk (q_row (by simp)) rfl | exact sk_g rfl rfl rfl rfl | exact sk_v rfl rfl rfl rfl rfl | exact sk_n rfl), (by refine sk ?_ rfl; exact q_row eL), (by refine sk ?_ rfl; exact q_row eL), (by refine sk ?_ rfl; exact q_int (by rw [eL, hlen])), (by first | exact sk rfl rfl | exact sk (q_int (by omega)) rfl | exact sk (q_bool (by simp)) rfl | exact sk (q_view rfl rfl rfl (by omega)) rfl | exact sk (q_gview rfl (by simp)) rfl | exact sk (q_nil rfl) rfl | exact sk (q_row (by simp)) rfl | exact sk_g rfl rfl rfl rfl | exact sk_v rfl rfl rfl rfl rfl | exact sk_n rfl), True.intro⟩
      · first | omega | assumption | simp
      · skip
        rintro i hi
        change awpB _ _ _ _ _ (outT (look [(2, .int .i64 lot), (8, .row TI64 (smpL d lot n.toNat)), (40, .row TI64 (smpL d lot n.toNat)), (41, .int .i64 n.toNat), (42, .int .i64 i)])) (outS [])
        refine aw_seq ?_
        refine aw_reg _ (by kernel_rfl) rfl ?_
        refine st (m := false) tabok rfl rfl rfl (by (repeat' apply And.intro); all_goals first | exact True.intro | rfl | omega | (simp only [inr]; omega) | (simp only [IntKind.bits]; omega) | exact fun h => h | (intro hq; rw [hq]; rfl) | (simp only [Int.toNat_natCast, dflt_i, dflt_b, dflt_l, dflt_p, Int.toNat_zero, gt_iff_lt, ge_iff_le]; omega) | (simp only [ti3, ti4, ti23, ti46]; omega) | (simp [ti3, ti4, ti23, ti46]; omega) | (simp_all; done) | (simp [SV.cellsL, SV.cells]; done) | (simp [SV.cellsL, SV.cells]; omega)) ?_
        refine ops_nil ?_
        refine aw_seq ?_
        refine aw_if rfl (fun c7 => ?_) (fun c7 => ?_)
        · try simp only [Bool.or_eq_true, Bool.and_eq_true, Bool.not_eq_true', Bool.not_eq_false', Bool.or_eq_false_iff, Bool.and_eq_false_imp, decide_eq_true_eq, decide_eq_false_iff_not, Bool.not_true, Bool.not_false, beq_iff_eq, Bool.not_eq_true, Bool.not_eq_false, Bool.true_eq_false, Bool.false_eq_true, not_or, Decidable.not_not, ne_eq] at c7
          try simp only [Int.toNat_natCast, dflt_i, dflt_b, dflt_l, dflt_p, Int.toNat_zero, gt_iff_lt, ge_iff_le] at c7
          have g1 := smpL_rng (d := d) hle (i := i) (by omega)
          refine aw_skip ?_
          refine aw_seq ?_
          refine aw_block ?_
          refine aw_seq ?_
          refine aw_reg _ (by kernel_rfl) rfl ?_
          iterate 5 refine st (m := false) tabok rfl rfl rfl (by (repeat' apply And.intro); all_goals first | exact True.intro | rfl | omega | (simp only [inr]; omega) | (simp only [IntKind.bits]; omega) | exact fun h => h | (intro hq; rw [hq]; rfl) | (simp only [Int.toNat_natCast, dflt_i, dflt_b, dflt_l, dflt_p, Int.toNat_zero, gt_iff_lt, ge_iff_le]; omega) | (simp only [ti3, ti4, ti23, ti46]; omega) | (simp [ti3, ti4, ti23, ti46]; omega) | (simp_all; done) | (simp [SV.cellsL, SV.cells]; done) | (simp [SV.cellsL, SV.cells]; omega)) ?_
          refine ops_nil ?_
          refine aw_seq ?_
          refine aw_reg _ (by kernel_rfl) rfl ?_
          iterate 3 refine st (m := false) tabok rfl rfl rfl (by (repeat' apply And.intro); all_goals first | exact True.intro | rfl | omega | (simp only [inr]; omega) | (simp only [IntKind.bits]; omega) | exact fun h => h | (intro hq; rw [hq]; rfl) | (simp only [Int.toNat_natCast, dflt_i, dflt_b, dflt_l, dflt_p, Int.toNat_zero, gt_iff_lt, ge_iff_le]; omega) | (simp only [ti3, ti4, ti23, ti46]; omega) | (simp [ti3, ti4, ti23, ti46]; omega) | (simp_all; done) | (simp [SV.cellsL, SV.cells]; done) | (simp [SV.cellsL, SV.cells]; omega)) ?_
          iterate 3 refine stg (m := false) tabok rfl rfl rfl rfl rfl (by intro hg; have hg0 := hg; (try simp only [Bool.or_eq_true, Bool.and_eq_true, Bool.not_eq_true', Bool.not_eq_false', Bool.or_eq_false_iff, Bool.and_eq_false_imp, decide_eq_true_eq, decide_eq_false_iff_not, Bool.not_true, Bool.not_false, beq_iff_eq, Bool.not_eq_true, Bool.not_eq_false, Bool.true_eq_false, Bool.false_eq_true, not_or, Decidable.not_not, ne_eq] at hg); (try simp only [Int.toNat_natCast, dflt_i, dflt_b, dflt_l, dflt_p, Int.toNat_zero, gt_iff_lt, ge_iff_le] at hg); (repeat' apply And.intro); all_goals first | exact hg0 | exact True.intro | rfl | omega | (simp only [inr]; omega) | (simp only [IntKind.bits]; omega) | (simp only [Bool.or_eq_true, Bool.and_eq_true, Bool.not_eq_true', Bool.not_eq_false', Bool.or_eq_false_iff, Bool.and_eq_false_imp, decide_eq_true_eq, decide_eq_false_iff_not, Bool.not_true, Bool.not_false, beq_iff_eq, Bool.not_eq_true, Bool.not_eq_false, Bool.true_eq_false, Bool.false_eq_true, not_or, Decidable.not_not, ne_eq]; omega) | (simp only [inr, Int.toNat_natCast, dflt_i, dflt_b, dflt_l, dflt_p, Int.toNat_zero, gt_iff_lt, ge_iff_le]; omega) | (simp only [Int.toNat_natCast, dflt_i, dflt_b, dflt_l, dflt_p, Int.toNat_zero, gt_iff_lt, ge_iff_le]; omega) | (simp only [Bool.or_eq_true, Bool.and_eq_true, Bool.not_eq_true', Bool.not_eq_false', Bool.or_eq_false_iff, Bool.and_eq_false_imp, decide_eq_true_eq, decide_eq_false_iff_not, Bool.not_true, Bool.not_false, beq_iff_eq, Bool.not_eq_true, Bool.not_eq_false, Bool.true_eq_false, Bool.false_eq_true, not_or, Decidable.not_not, ne_eq] at hg0 ⊢; simp_all; done) | (simp_all; done) | (simp_all; omega)) ?_
          iterate 2 refine st (m := false) tabok rfl rfl rfl (by (repeat' apply And.intro); all_goals first | exact True.intro | rfl | omega | (simp only [inr]; omega) | (simp only [IntKind.bits]; omega) | exact fun h => h | (intro hq; rw [hq]; rfl) | (simp only [Int.toNat_natCast, dflt_i, dflt_b, dflt_l, dflt_p, Int.toNat_zero, gt_iff_lt, ge_iff_le]; omega) | (simp only [ti3, ti4, ti23, ti46]; omega) | (simp [ti3, ti4, ti23, ti46]; omega) | (simp_all; done) | (simp [SV.cellsL, SV.cells]; done) | (simp [SV.cellsL, SV.cells]; omega)) ?_
          iterate 11 refine stg (m := false) tabok rfl rfl rfl rfl rfl (by intro hg; have hg0 := hg; (try simp only [Bool.or_eq_true, Bool.and_eq_true, Bool.not_eq_true', Bool.not_eq_false', Bool.or_eq_false_iff, Bool.and_eq_false_imp, decide_eq_true_eq, decide_eq_false_iff_not, Bool.not_true, Bool.not_false, beq_iff_eq, Bool.not_eq_true, Bool.not_eq_false, Bool.true_eq_false, Bool.false_eq_true, not_or, Decidable.not_not, ne_eq] at hg); (try simp only [Int.toNat_natCast, dflt_i, dflt_b, dflt_l, dflt_p, Int.toNat_zero, gt_iff_lt, ge_iff_le] at hg); (repeat' apply And.intro); all_goals first | exact hg0 | exact True.intro | rfl | omega | (simp only [inr]; omega) | (simp only [IntKind.bits]; omega) | (simp only [Bool.or_eq_true, Bool.and_eq_true, Bool.not_eq_true', Bool.not_eq_false', Bool.or_eq_false_iff, Bool.and_eq_false_imp, decide_eq_true_eq, decide_eq_false_iff_not, Bool.not_true, Bool.not_false, beq_iff_eq, Bool.not_eq_true, Bool.not_eq_false, Bool.true_eq_false, Bool.false_eq_true, not_or, Decidable.not_not, ne_eq]; omega) | (simp only [inr, Int.toNat_natCast, dflt_i, dflt_b, dflt_l, dflt_p, Int.toNat_zero, gt_iff_lt, ge_iff_le]; omega) | (simp only [Int.toNat_natCast, dflt_i, dflt_b, dflt_l, dflt_p, Int.toNat_zero, gt_iff_lt, ge_iff_le]; omega) | (simp only [Bool.or_eq_true, Bool.and_eq_true, Bool.not_eq_true', Bool.not_eq_false', Bool.or_eq_false_iff, Bool.and_eq_false_imp, decide_eq_true_eq, decide_eq_false_iff_not, Bool.not_true, Bool.not_false, beq_iff_eq, Bool.not_eq_true, Bool.not_eq_false, Bool.true_eq_false, Bool.false_eq_true, not_or, Decidable.not_not, ne_eq] at hg0 ⊢; simp_all; done) | (simp_all; done) | (simp_all; omega)) ?_
          refine st (m := false) tabok rfl rfl rfl (by (repeat' apply And.intro); all_goals first | exact True.intro | rfl | omega | (simp only [inr]; omega) | (simp only [IntKind.bits]; omega) | exact fun h => h | (intro hq; rw [hq]; rfl) | (simp only [Int.toNat_natCast, dflt_i, dflt_b, dflt_l, dflt_p, Int.toNat_zero, gt_iff_lt, ge_iff_le]; omega) | (simp only [ti3, ti4, ti23, ti46]; omega) | (simp [ti3, ti4, ti23, ti46]; omega) | (simp_all; done) | (simp [SV.cellsL, SV.cells]; done) | (simp [SV.cellsL, SV.cells]; omega)) ?_
          refine ops_nil ?_
          refine aw_if rfl (fun c9 => ?_) (fun c9 => ?_)
          · try simp only [Bool.or_eq_true, Bool.and_eq_true, Bool.not_eq_true', Bool.not_eq_false', Bool.or_eq_false_iff, Bool.and_eq_false_imp, decide_eq_true_eq, decide_eq_false_iff_not, Bool.not_true, Bool.not_false, beq_iff_eq, Bool.not_eq_true, Bool.not_eq_false, Bool.true_eq_false, Bool.false_eq_true, not_or, Decidable.not_not, ne_eq] at c9
            try simp only [Int.toNat_natCast, dflt_i, dflt_b, dflt_l, dflt_p, Int.toNat_zero, gt_iff_lt, ge_iff_le] at c9
            refine aw_seq ?_
            refine aw_reg _ (by kernel_rfl) rfl ?_
            refine st (m := false) tabok rfl rfl rfl (by (repeat' apply And.intro); all_goals first | exact True.intro | rfl | omega | (simp only [inr]; omega) | (simp only [IntKind.bits]; omega) | exact fun h => h | (intro hq; rw [hq]; rfl) | (simp only [Int.toNat_natCast, dflt_i, dflt_b, dflt_l, dflt_p, Int.toNat_zero, gt_iff_lt, ge_iff_le]; omega) | (simp only [ti3, ti4, ti23, ti46]; omega) | (simp [ti3, ti4, ti23, ti46]; omega) | (simp_all; done) | (simp [SV.cellsL, SV.cells]; done) | (simp [SV.cellsL, SV.cells]; omega)) ?_
            refine ops_nil ?_
            refine aw_ret ?_
            -- leaf ret.7t.9t
            refine ret_c ?_
            exfalso
            rcases c9 with c9 | c9
            · omega
            · have := smpL_inc (d := d) hle (i := i - 1) (by omega)
              rw [show i - 1 + 1 = i by omega] at this
              rw [show ((i : Int) - 1).toNat = i - 1 by omega] at c9
              have c92 := c9.2
              omega
          · try simp only [Bool.or_eq_true, Bool.and_eq_true, Bool.not_eq_true', Bool.not_eq_false', Bool.or_eq_false_iff, Bool.and_eq_false_imp, decide_eq_true_eq, decide_eq_false_iff_not, Bool.not_true, Bool.not_false, beq_iff_eq, Bool.not_eq_true, Bool.not_eq_false, Bool.true_eq_false, Bool.false_eq_true, not_or, Decidable.not_not, ne_eq] at c9
            try simp only [Int.toNat_natCast, dflt_i, dflt_b, dflt_l, dflt_p, Int.toNat_zero, gt_iff_lt, ge_iff_le] at c9
            refine aw_skip ?_
            refine aw_reg _ (by kernel_rfl) rfl ?_
            iterate 2 refine st (m := false) tabok rfl rfl rfl (by (repeat' apply And.intro); all_goals first | exact True.intro | rfl | omega | (simp only [inr]; omega) | (simp only [IntKind.bits]; omega) | exact fun h => h | (intro hq; rw [hq]; rfl) | (simp only [Int.toNat_natCast, dflt_i, dflt_b, dflt_l, dflt_p, Int.toNat_zero, gt_iff_lt, ge_iff_le]; omega) | (simp only [ti3, ti4, ti23, ti46]; omega) | (simp [ti3, ti4, ti23, ti46]; omega) | (simp_all; done) | (simp [SV.cellsL, SV.cells]; done) | (simp [SV.cellsL, SV.cells]; omega)) ?_
            refine ops_nil ?_
            -- leaf L0.7t.9f
            refine Exists.intro (i + 1) ⟨?_, ?_, ?_⟩
            · exact goes_to (tm := _) (st := _) [] rfl rfl True.intro ⟨(by first | exact sk rfl rfl | exact sk (q_int (by omega)) rfl | exact sk (q_bool (by simp)) rfl | exact sk (q_view rfl rfl rfl (by omega)) rfl | exact sk (q_gview rfl (by simp)) rfl | exact sk (q_nil rfl) rfl | exact sk (q_row (by simp)) rfl | exact sk_g rfl rfl rfl rfl | exact sk_v rfl rfl rfl rfl rfl | exact sk_n rfl), (by first | exact sk rfl rfl | exact sk (q_int (by omega)) rfl | exact sk (q_bool (by simp)) rfl | exact sk (q_view rfl rfl rfl (by omega)) rfl | exact sk (q_gview rfl (by simp)) rfl | exact sk (q_nil rfl) rfl | exact sk (q_row (by simp)) rfl | exact sk_g rfl rfl rfl rfl | exact sk_v rfl rfl rfl rfl rfl | exact sk_n rfl), (by first | exact sk rfl rfl | exact sk (q_int (by omega)) rfl | exact sk (q_bool (by simp)) rfl | exact sk (q_view rfl rfl rfl (by omega)) rfl | exact sk (q_gview rfl (by simp)) rfl | exact sk (q_nil rfl) rfl | exact sk (q_row (by simp)) rfl | exact sk_g rfl rfl rfl rfl | exact sk_v rfl rfl rfl rfl rfl | exact sk_n rfl), (by first | exact sk rfl rfl | exact sk (q_int (by omega)) rfl | exact sk (q_bool (by simp)) rfl | exact sk (q_view rfl rfl rfl (by omega)) rfl | exact sk (q_gview rfl (by simp)) rfl | exact sk (q_nil rfl) rfl | exact sk (q_row (by simp)) rfl | exact sk_g rfl rfl rfl rfl | exact sk_v rfl rfl rfl rfl rfl | exact sk_n rfl), (by first | exact sk rfl rfl | exact sk (q_int (by omega)) rfl | exact sk (q_bool (by simp)) rfl | exact sk (q_view rfl rfl rfl (by omega)) rfl | exact sk (q_gview rfl (by simp)) rfl | exact sk (q_nil rfl) rfl | exact sk (q_row (by simp)) rfl | exact sk_g rfl rfl rfl rfl | exact sk_v rfl rfl rfl rfl rfl | exact sk_n rfl), True.intro⟩
            · try dsimp only
              first | omega | assumption | simp
            · (try dsimp only); omega
        · try simp only [Bool.or_eq_true, Bool.and_eq_true, Bool.not_eq_true', Bool.not_eq_false', Bool.or_eq_false_iff, Bool.and_eq_false_imp, decide_eq_true_eq, decide_eq_false_iff_not, Bool.not_true, Bool.not_false, beq_iff_eq, Bool.not_eq_true, Bool.not_eq_false, Bool.true_eq_false, Bool.false_eq_true, not_or, Decidable.not_not, ne_eq] at c7
          try simp only [Int.toNat_natCast, dflt_i, dflt_b, dflt_l, dflt_p, Int.toNat_zero, gt_iff_lt, ge_iff_le] at c7
          refine aw_exit ?_
          refine aw_seq ?_
          refine aw_reg _ (by kernel_rfl) rfl ?_
          refine sc (alive_ok) rfl rfl (by kernel_rfl) rfl (by kernel_rfl) .nil ?_
          refine st (m := false) tabok rfl rfl rfl (by (repeat' apply And.intro); all_goals first | exact True.intro | rfl | omega | (simp only [inr]; omega) | (simp only [IntKind.bits]; omega) | exact fun h => h | (intro hq; rw [hq]; rfl) | (simp only [Int.toNat_natCast, dflt_i, dflt_b, dflt_l, dflt_p, Int.toNat_zero, gt_iff_lt, ge_iff_le]; omega) | (simp only [ti3, ti4, ti23, ti46]; omega) | (simp [ti3, ti4, ti23, ti46]; omega) | (simp_all; done) | (simp [SV.cellsL, SV.cells]; done) | (simp [SV.cellsL, SV.cells]; omega)) ?_
          refine ops_nil ?_
          refine aw_ret ?_
          -- leaf ret.7f
          refine ret_c ?_
          first | exact fs rfl | exact fs_tt (by simp_all) | exact fs_ff (by simp_all) | exact fs_bool (by simp_all) | exact fs_int (by simp_all) | exact fs_nil (by simp_all)
theorem samples_law (d : Int) (p : Int × Int) (lot : Int) (_ : WfD (.i .u64) d) (_ : WfD TPlan p) (_ : WfD TI64 lot) : CS Try.prog 6 [.int .u64 d, .agg [.int .i64 p.1, .int .i64 p.2], .int .i64 lot] (.bool true) := samples_ok d p.1 p.2 lot
end Go.Sim
end
section
namespace Go.Sim
open Go Go.Proofs
set_option maxRecDepth 10000
set_option autoImplicit false
set_option linter.unusedSimpArgs false
set_option linter.unusedVariables false
theorem limited_ok (a b : Int) : CS Try.prog 72 [.int .i64 a, .int .i64 b] (.int .i64 (max 0 (min a b))) := by
  refine fn_c [4] Try.func72 Try.ntmps72 rfl rfl rfl rfl ?_
  refine aw_seq ?_
  refine aw_reg _ (by kernel_rfl) rfl ?_
  refine st (m := false) tabok rfl rfl rfl (by (repeat' apply And.intro); all_goals first | exact True.intro | rfl | omega | (simp only [inr]; omega) | (simp only [IntKind.bits]; omega) | exact fun h => h | (intro hq; rw [hq]; rfl) | (simp only [Int.toNat_natCast, dflt_i, dflt_b, dflt_l, dflt_p, Int.toNat_zero, gt_iff_lt, ge_iff_le]; omega) | (simp only [ti3, ti4, ti23, ti46]; omega) | (simp [ti3, ti4, ti23, ti46]; omega) | (simp_all; done) | (simp [SV.cellsL, SV.cells]; done) | (simp [SV.cellsL, SV.cells]; omega)) ?_
  refine ops_nil ?_
  refine aw_seq ?_
  refine aw_reg _ (by kernel_rfl) rfl ?_
  iterate 5 refine st (m := false) tabok rfl rfl rfl (by (repeat' apply And.intro); all_goals first | exact True.intro | rfl | omega | (simp only [inr]; omega) | (simp only [IntKind.bits]; omega) | exact fun h => h | (intro hq; rw [hq]; rfl) | (simp only [Int.toNat_natCast, dflt_i, dflt_b, dflt_l, dflt_p, Int.toNat_zero, gt_iff_lt, ge_iff_le]; omega) | (simp only [ti3, ti4, ti23, ti46]; omega) | (simp [ti3, ti4, ti23, ti46]; omega) | (simp_all; done) | (simp [SV.cellsL, SV.cells]; done) | (simp [SV.cellsL, SV.cells]; omega)) ?_
  refine ops_nil ?_
  refine aw_ret ?_
  -- leaf ret
  refine ret_c ?_
  first | exact fs rfl | exact fs_tt (by simp_all) | exact fs_ff (by simp_all) | exact fs_bool (by simp_all) | exact fs_int (by simp_all) | exact fs_nil (by simp_all)
theorem refshuffle_ok (d n : Int) : CS Try.prog 71 [.int .u64 d, .int .i64 n] (.tup [.int .u64 (shufOf d n).1, .row TI64 (shufOf d n).2]) := by
  obtain ⟨N, hN⟩ : ∃ N : Nat, cn n = (N : Int) := ⟨(cn n).toNat, by have := cn_range n; omega⟩
  have hN2 : max 0 (min n 1000) = (N : Int) := by rw [← hN]; unfold cn mx mn; split <;> split <;> omega
  have hN3 : N ≤ 1000 := by have := cn_range n; omega
  have hN4 : (cn n).toNat = N := by omega
  refine fn_c [4, 5] Try.func71 Try.ntmps71 rfl rfl rfl rfl ?_
  refine aw_seq ?_
  refine aw_reg _ (by kernel_rfl) rfl ?_
  iterate 2 refine st (m := false) tabok rfl rfl rfl (by (repeat' apply And.intro); all_goals first | exact True.intro | rfl | omega | (simp only [inr]; omega) | (simp only [IntKind.bits]; omega) | exact fun h => h | (intro hq; rw [hq]; rfl) | (simp only [Int.toNat_natCast, dflt_i, dflt_b, dflt_l, dflt_p, Int.toNat_zero, gt_iff_lt, ge_iff_le]; omega) | (simp only [ti3, ti4, ti23, ti46]; omega) | (simp [ti3, ti4, ti23, ti46]; omega) | (simp_all; done) | (simp [SV.cellsL, SV.cells]; done) | (simp [SV.cellsL, SV.cells]; omega)) ?_
  refine ops_nil ?_
  refine aw_seq ?_
  refine aw_reg _ (by kernel_rfl) rfl ?_
  refine st (m := false) tabok rfl rfl rfl (by (repeat' apply And.intro); all_goals first | exact True.intro | rfl | omega | (simp only [inr]; omega) | (simp only [IntKind.bits]; omega) | exact fun h => h | (intro hq; rw [hq]; rfl) | (simp only [Int.toNat_natCast, dflt_i, dflt_b, dflt_l, dflt_p, Int.toNat_zero, gt_iff_lt, ge_iff_le]; omega) | (simp only [ti3, ti4, ti23, ti46]; omega) | (simp [ti3, ti4, ti23, ti46]; omega) | (simp_all; done) | (simp [SV.cellsL, SV.cells]; done) | (simp [SV.cellsL, SV.cells]; omega)) ?_
  refine sc (limited_ok n 1000) rfl rfl (by kernel_rfl) rfl (by kernel_rfl) (.cons (by first | exact argw_same | exact argw_nil | exact argw_tt | exact argw_ff | exact argw_eq rfl) (.cons (by first | exact argw_same | exact argw_nil | exact argw_tt | exact argw_ff | exact argw_eq rfl) .nil)) ?_
  refine st (m := false) tabok rfl rfl rfl (by (repeat' apply And.intro); all_goals first | exact True.intro | rfl | omega | (simp only [inr]; omega) | (simp only [IntKind.bits]; omega) | exact fun h => h | (intro hq; rw [hq]; rfl) | (simp only [Int.toNat_natCast, dflt_i, dflt_b, dflt_l, dflt_p, Int.toNat_zero, gt_iff_lt, ge_iff_le]; omega) | (simp only [ti3, ti4, ti23, ti46]; omega) | (simp [ti3, ti4, ti23, ti46]; omega) | (simp_all; done) | (simp [SV.cellsL, SV.cells]; done) | (simp [SV.cellsL, SV.cells]; omega)) ?_
  refine ops_nil ?_
  refine aw_seq ?_
  refine aw_reg _ (by kernel_rfl) rfl ?_
  iterate 3 refine st (m := false) tabok rfl rfl rfl (by (repeat' apply And.intro); all_goals first | exact True.intro | rfl | omega | (simp only [inr]; omega) | (simp only [IntKind.bits]; omega) | exact fun h => h | (intro hq; rw [hq]; rfl) | (simp only [Int.toNat_natCast, dflt_i, dflt_b, dflt_l, dflt_p, Int.toNat_zero, gt_iff_lt, ge_iff_le]; omega) | (simp only [ti3, ti4, ti23, ti46]; omega) | (simp [ti3, ti4, ti23, ti46]; omega) | (simp_all; done) | (simp [SV.cellsL, SV.cells]; done) | (simp [SV.cellsL, SV.cells]; omega)) ?_
  refine ops_nil ?_
  refine aw_seq ?_
  refine aw_seq ?_
  refine aw_reg _ (by kernel_rfl) rfl ?_
  refine st (m := false) tabok rfl rfl rfl (by (repeat' apply And.intro); all_goals first | exact True.intro | rfl | omega | (simp only [inr]; omega) | (simp only [IntKind.bits]; omega) | exact fun h => h | (intro hq; rw [hq]; rfl) | (simp only [Int.toNat_natCast, dflt_i, dflt_b, dflt_l, dflt_p, Int.toNat_zero, gt_iff_lt, ge_iff_le]; omega) | (simp only [ti3, ti4, ti23, ti46]; omega) | (simp [ti3, ti4, ti23, ti46]; omega) | (simp_all; done) | (simp [SV.cellsL, SV.cells]; done) | (simp [SV.cellsL, SV.cells]; omega)) ?_
  refine ops_nil ?_
  refine aw_block ?_
  refine aw_loop (X := (Nat)) (fun (i : Nat) => outT (look [(0, .int .u64 d), (1, .int .i64 N), (6, .view 0 0 0 N), (7, .int .i64 i)])) (fun (i : Nat) => outS [.obj 0 3 1 [.lst TI64 (fillN N i)]]) (fun (i : Nat) => (i ≤ N)) (fun (i : Nat) => N - i) (0) ?_ ?_ ?_
  -- leaf L0:entry
  · exact goes_to (tm := _) (st := _) [true] rfl rfl ⟨(by exact q_lst (by rw [show (max 0 (min n 1000)).toNat = N by omega]; exact fillN_zero N)), True.intro⟩ ⟨(by first | exact sk rfl rfl | exact sk (q_int (by omega)) rfl | exact sk (q_bool (by simp)) rfl | exact sk (q_view rfl rfl rfl (by omega)) rfl | exact sk (q_gview rfl (by simp)) rfl | exact sk (q_nil rfl) rfl | exact sk (q_row (by simp)) rfl | exact sk_g rfl rfl rfl rfl | exact sk_v rfl rfl rfl rfl rfl | exact sk_n rfl), (by first | exact sk rfl rfl | exact sk (q_int (by omega)) rfl | exact sk (q_bool (by simp)) rfl | exact sk (q_view rfl rfl rfl (by omega)) rfl | exact sk (q_gview rfl (by simp)) rfl | exact sk (q_nil rfl) rfl | exact sk (q_row (by simp)) rfl | exact sk_g rfl rfl rfl rfl | exact sk_v rfl rfl rfl rfl rfl | exact sk_n rfl), (by first | exact sk rfl rfl | exact sk (q_int (by omega)) rfl | exact sk (q_bool (by simp)) rfl | exact sk (q_view rfl rfl rfl (by omega)) rfl | exact sk (q_gview rfl (by simp)) rfl | exact sk (q_nil rfl) rfl | exact sk (q_row (by simp)) rfl | exact sk_g rfl rfl rfl rfl | exact sk_v rfl rfl rfl rfl rfl | exact sk_n rfl), (by first | exact sk rfl rfl | exact sk (q_int (by omega)) rfl | exact sk (q_bool (by simp)) rfl | exact sk (q_view rfl rfl rfl (by omega)) rfl | exact sk (q_gview rfl (by simp)) rfl | exact sk (q_nil rfl) rfl | exact sk (q_row (by simp)) rfl | exact sk_g rfl rfl rfl rfl | exact sk_v rfl rfl rfl rfl rfl | exact sk_n rfl), True.intro⟩
  · first | omega | assumption | simp
  · skip
    rintro i hi
    change awpB _ _ _ _ _ (outT (look [(0, .int .u64 d), (1, .int .i64 N), (6, .view 0 0 0 N), (7, .int .i64 i)])) (outS [.obj 0 3 1 [.lst TI64 (fillN N i)]])
    have f1 := fillN_len N i
    refine aw_seq ?_
    refine aw_seq ?_
    refine aw_reg _ (by kernel_rfl) rfl ?_
    iterate 3 refine st (m := false) tabok rfl rfl rfl (by (repeat' apply And.intro); all_goals first | exact True.intro | rfl | omega | (simp only [inr]; omega) | (simp only [IntKind.bits]; omega) | exact fun h => h | (intro hq; rw [hq]; rfl) | (simp only [Int.toNat_natCast, dflt_i, dflt_b, dflt_l, dflt_p, Int.toNat_zero, gt_iff_lt, ge_iff_le]; omega) | (simp only [ti3, ti4, ti23, ti46]; omega) | (simp [ti3, ti4, ti23, ti46]; omega) | (simp_all; done) | (simp [SV.cellsL, SV.cells]; done) | (simp [SV.cellsL, SV.cells]; omega)) ?_
    refine ops_nil ?_
    refine aw_if rfl (fun c4 => ?_) (fun c4 => ?_)
    · try simp only [Bool.or_eq_true, Bool.and_eq_true, Bool.not_eq_true', Bool.not_eq_false', Bool.or_eq_false_iff, Bool.and_eq_false_imp, decide_eq_true_eq, decide_eq_false_iff_not, Bool.not_true, Bool.not_false, beq_iff_eq, Bool.not_eq_true, Bool.not_eq_false, Bool.true_eq_false, Bool.false_eq_true, not_or, Decidable.not_not, ne_eq] at c4
      try simp only [Int.toNat_natCast, dflt_i, dflt_b, dflt_l, dflt_p, Int.toNat_zero, gt_iff_lt, ge_iff_le] at c4
      refine aw_skip ?_
      refine aw_seq ?_
      refine aw_block ?_
      refine aw_reg _ (by kernel_rfl) rfl ?_
      iterate 4 refine st (m := false) tabok rfl rfl rfl (by (repeat' apply And.intro); all_goals first | exact True.intro | rfl | omega | (simp only [inr]; omega) | (simp only [IntKind.bits]; omega) | exact fun h => h | (intro hq; rw [hq]; rfl) | (simp only [Int.toNat_natCast, dflt_i, dflt_b, dflt_l, dflt_p, Int.toNat_zero, gt_iff_lt, ge_iff_le]; omega) | (simp only [ti3, ti4, ti23, ti46]; omega) | (simp [ti3, ti4, ti23, ti46]; omega) | (simp_all; done) | (simp [SV.cellsL, SV.cells]; done) | (simp [SV.cellsL, SV.cells]; omega)) ?_
      refine st0 (m := false) tabok rfl rfl rfl (by (repeat' apply And.intro); all_goals first | exact True.intro | rfl | omega | (simp only [inr]; omega) | (simp only [IntKind.bits]; omega) | exact fun h => h | (intro hq; rw [hq]; rfl) | (simp only [Int.toNat_natCast, dflt_i, dflt_b, dflt_l, dflt_p, Int.toNat_zero, gt_iff_lt, ge_iff_le]; omega) | (simp only [ti3, ti4, ti23, ti46]; omega) | (simp [ti3, ti4, ti23, ti46]; omega) | (simp_all; done) | (simp [SV.cellsL, SV.cells]; done) | (simp [SV.cellsL, SV.cells]; omega)) ?_
      refine ops_nil ?_
      refine aw_reg _ (by kernel_rfl) rfl ?_
      iterate 3 refine st (m := false) tabok rfl rfl rfl (by (repeat' apply And.intro); all_goals first | exact True.intro | rfl | omega | (simp only [inr]; omega) | (simp only [IntKind.bits]; omega) | exact fun h => h | (intro hq; rw [hq]; rfl) | (simp only [Int.toNat_natCast, dflt_i, dflt_b, dflt_l, dflt_p, Int.toNat_zero, gt_iff_lt, ge_iff_le]; omega) | (simp only [ti3, ti4, ti23, ti46]; omega) | (simp [ti3, ti4, ti23, ti46]; omega) | (simp_all; done) | (simp [SV.cellsL, SV.cells]; done) | (simp [SV.cellsL, SV.cells]; omega)) ?_
      refine ops_nil ?_
      -- leaf L0.4t
      refine Exists.intro (i + 1) ⟨?_, ?_, ?_⟩
      · exact goes_to (tm := _) (st := _) [true] rfl rfl ⟨(by exact q_lst (fillN_set N i)), True.intro⟩ ⟨(by first | exact sk rfl rfl | exact sk (q_int (by omega)) rfl | exact sk (q_bool (by simp)) rfl | exact sk (q_view rfl rfl rfl (by omega)) rfl | exact sk (q_gview rfl (by simp)) rfl | exact sk (q_nil rfl) rfl | exact sk (q_row (by simp)) rfl | exact sk_g rfl rfl rfl rfl | exact sk_v rfl rfl rfl rfl rfl | exact sk_n rfl), (by first | exact sk rfl rfl | exact sk (q_int (by omega)) rfl | exact sk (q_bool (by simp)) rfl | exact sk (q_view rfl rfl rfl (by omega)) rfl | exact sk (q_gview rfl (by simp)) rfl | exact sk (q_nil rfl) rfl | exact sk (q_row (by simp)) rfl | exact sk_g rfl rfl rfl rfl | exact sk_v rfl rfl rfl rfl rfl | exact sk_n rfl), (by first | exact sk rfl rfl | exact sk (q_int (by omega)) rfl | exact sk (q_bool (by simp)) rfl | exact sk (q_view rfl rfl rfl (by omega)) rfl | exact sk (q_gview rfl (by simp)) rfl | exact sk (q_nil rfl) rfl | exact sk (q_row (by simp)) rfl | exact sk_g rfl rfl rfl rfl | exact sk_v rfl rfl rfl rfl rfl | exact sk_n rfl), (by first | exact sk rfl rfl | exact sk (q_int (by omega)) rfl | exact sk (q_bool (by simp)) rfl | exact sk (q_view rfl rfl rfl (by omega)) rfl | exact sk (q_gview rfl (by simp)) rfl | exact sk (q_nil rfl) rfl | exact sk (q_row (by simp)) rfl | exact sk_g rfl rfl rfl rfl | exact sk_v rfl rfl rfl rfl rfl | exact sk_n rfl), True.intro⟩
      · try dsimp only
        first | omega | assumption | simp
      · (try dsimp only); omega
    · try simp only [Bool.or_eq_true, Bool.and_eq_true, Bool.not_eq_true', Bool.not_eq_false', Bool.or_eq_false_iff, Bool.and_eq_false_imp, decide_eq_true_eq, decide_eq_false_iff_not, Bool.not_true, Bool.not_false, beq_iff_eq, Bool.not_eq_true, Bool.not_eq_false, Bool.true_eq_false, Bool.false_eq_true, not_or, Decidable.not_not, ne_eq] at c4
      try simp only [Int.toNat_natCast, dflt_i, dflt_b, dflt_l, dflt_p, Int.toNat_zero, gt_iff_lt, ge_iff_le] at c4
      refine aw_exit ?_
      refine aw_seq ?_
      refine aw_seq ?_
      refine aw_reg _ (by kernel_rfl) rfl ?_
      iterate 3 refine st (m := false) tabok rfl rfl rfl (by (repeat' apply And.intro); all_goals first | exact True.intro | rfl | omega | (simp only [inr]; omega) | (simp only [IntKind.bits]; omega) | exact fun h => h | (intro hq; rw [hq]; rfl) | (simp only [Int.toNat_natCast, dflt_i, dflt_b, dflt_l, dflt_p, Int.toNat_zero, gt_iff_lt, ge_iff_le]; omega) | (simp only [ti3, ti4, ti23, ti46]; omega) | (simp [ti3, ti4, ti23, ti46]; omega) | (simp_all; done) | (simp [SV.cellsL, SV.cells]; done) | (simp [SV.cellsL, SV.cells]; omega)) ?_
      refine ops_nil ?_
      refine aw_block ?_
      refine aw_loop (X := (Int) × (Int) × (List Int)) (fun (x : (Int) × (Int) × (List Int)) => match x with | (j, d', l) => outT (look [(0, .int .u64 d'), (6, .view 0 0 0 N), (8, .int .i64 j)])) (fun (x : (Int) × (Int) × (List Int)) => match x with | (j, d', l) => outS [.obj 0 3 1 [.lst TI64 l]]) (fun (x : (Int) × (Int) × (List Int)) => match x with | (j, d', l) => (-1 ≤ j ∧ j < N) ∧ (l.length = N) ∧ (shuf j.toNat d' l = shufOf d n)) (fun (x : (Int) × (Int) × (List Int)) => match x with | (j, d', l) => j.toNat) (((N : Int) - 1, d, iota N)) ?_ ?_ ?_
      -- leaf L1:entry.4f
      · exact goes_to (tm := _) (st := _) [true] rfl rfl ⟨(by exact q_lst (by rw [show i = N by omega]; exact fillN_all N)), True.intro⟩ ⟨(by first | exact sk rfl rfl | exact sk (q_int (by omega)) rfl | exact sk (q_bool (by simp)) rfl | exact sk (q_view rfl rfl rfl (by omega)) rfl | exact sk (q_gview rfl (by simp)) rfl | exact sk (q_nil rfl) rfl | exact sk (q_row (by simp)) rfl | exact sk_g rfl rfl rfl rfl | exact sk_v rfl rfl rfl rfl rfl | exact sk_n rfl), (by first | exact sk rfl rfl | exact sk (q_int (by omega)) rfl | exact sk (q_bool (by simp)) rfl | exact sk (q_view rfl rfl rfl (by omega)) rfl | exact sk (q_gview rfl (by simp)) rfl | exact sk (q_nil rfl) rfl | exact sk (q_row (by simp)) rfl | exact sk_g rfl rfl rfl rfl | exact sk_v rfl rfl rfl rfl rfl | exact sk_n rfl), (by first | exact sk rfl rfl | exact sk (q_int (by omega)) rfl | exact sk (q_bool (by simp)) rfl | exact sk (q_view rfl rfl rfl (by omega)) rfl | exact sk (q_gview rfl (by simp)) rfl | exact sk (q_nil rfl) rfl | exact sk (q_row (by simp)) rfl | exact sk_g rfl rfl rfl rfl | exact sk_v rfl rfl rfl rfl rfl | exact sk_n rfl), True.intro⟩
      · exact ⟨by omega, by simp [iota], by unfold shufOf; rw [hN4, show ((N : Int) - 1).toNat = N - 1 by omega]⟩
      · skip
        rintro ⟨j, d', l⟩ ⟨hj, hl, hs⟩
        change awpB _ _ _ _ _ (outT (look [(0, .int .u64 d'), (6, .view 0 0 0 N), (8, .int .i64 j)])) (outS [.obj 0 3 1 [.lst TI64 l]])
        refine aw_seq ?_
        refine aw_seq ?_
        refine aw_reg _ (by kernel_rfl) rfl ?_
        iterate 2 refine st (m := false) tabok rfl rfl rfl (by (repeat' apply And.intro); all_goals first | exact True.intro | rfl | omega | (simp only [inr]; omega) | (simp only [IntKind.bits]; omega) | exact fun h => h | (intro hq; rw [hq]; rfl) | (simp only [Int.toNat_natCast, dflt_i, dflt_b, dflt_l, dflt_p, Int.toNat_zero, gt_iff_lt, ge_iff_le]; omega) | (simp only [ti3, ti4, ti23, ti46]; omega) | (simp [ti3, ti4, ti23, ti46]; omega) | (simp_all; done) | (simp [SV.cellsL, SV.cells]; done) | (simp [SV.cellsL, SV.cells]; omega)) ?_
        refine ops_nil ?_
        refine aw_if rfl (fun c8 => ?_) (fun c8 => ?_)
        · try simp only [Bool.or_eq_true, Bool.and_eq_true, Bool.not_eq_true', Bool.not_eq_false', Bool.or_eq_false_iff, Bool.and_eq_false_imp, decide_eq_true_eq, decide_eq_false_iff_not, Bool.not_true, Bool.not_false, beq_iff_eq, Bool.not_eq_true, Bool.not_eq_false, Bool.true_eq_false, Bool.false_eq_true, not_or, Decidable.not_not, ne_eq] at c8
          try simp only [Int.toNat_natCast, dflt_i, dflt_b, dflt_l, dflt_p, Int.toNat_zero, gt_iff_lt, ge_iff_le] at c8
          have b1 := bk_range d' (j + 1) (by omega)
          refine aw_skip ?_
          refine aw_seq ?_
          refine aw_block ?_
          refine aw_seq ?_
          refine aw_reg _ (by kernel_rfl) rfl ?_
          iterate 3 refine st (m := false) tabok rfl rfl rfl (by (repeat' apply And.intro); all_goals first | exact True.intro | rfl | omega | (simp only [inr]; omega) | (simp only [IntKind.bits]; omega) | exact fun h => h | (intro hq; rw [hq]; rfl) | (simp only [Int.toNat_natCast, dflt_i, dflt_b, dflt_l, dflt_p, Int.toNat_zero, gt_iff_lt, ge_iff_le]; omega) | (simp only [ti3, ti4, ti23, ti46]; omega) | (simp [ti3, ti4, ti23, ti46]; omega) | (simp_all; done) | (simp [SV.cellsL, SV.cells]; done) | (simp [SV.cellsL, SV.cells]; omega)) ?_
          refine sc (refbelow_ok d' (j + 1)) rfl rfl (by kernel_rfl) rfl (by kernel_rfl) (.cons (by first | exact argw_same | exact argw_nil | exact argw_tt | exact argw_ff | exact argw_eq rfl) (.cons (by first | exact argw_same | exact argw_nil | exact argw_tt | exact argw_ff | exact argw_eq rfl) .nil)) ?_
          iterate 5 refine st (m := false) tabok rfl rfl rfl (by (repeat' apply And.intro); all_goals first | exact True.intro | rfl | omega | (simp only [inr]; omega) | (simp only [IntKind.bits]; omega) | exact fun h => h | (intro hq; rw [hq]; rfl) | (simp only [Int.toNat_natCast, dflt_i, dflt_b, dflt_l, dflt_p, Int.toNat_zero, gt_iff_lt, ge_iff_le]; omega) | (simp only [ti3, ti4, ti23, ti46]; omega) | (simp [ti3, ti4, ti23, ti46]; omega) | (simp_all; done) | (simp [SV.cellsL, SV.cells]; done) | (simp [SV.cellsL, SV.cells]; omega)) ?_
          refine ops_nil ?_
          refine aw_seq ?_
          refine aw_reg _ (by kernel_rfl) rfl ?_
          iterate 2 refine st (m := false) tabok rfl rfl rfl (by (repeat' apply And.intro); all_goals first | exact True.intro | rfl | omega | (simp only [inr]; omega) | (simp only [IntKind.bits]; omega) | exact fun h => h | (intro hq; rw [hq]; rfl) | (simp only [Int.toNat_natCast, dflt_i, dflt_b, dflt_l, dflt_p, Int.toNat_zero, gt_iff_lt, ge_iff_le]; omega) | (simp only [ti3, ti4, ti23, ti46]; omega) | (simp [ti3, ti4, ti23, ti46]; omega) | (simp_all; done) | (simp [SV.cellsL, SV.cells]; done) | (simp [SV.cellsL, SV.cells]; omega)) ?_
          refine ops_nil ?_
          refine aw_seq ?_
          refine aw_reg _ (by kernel_rfl) rfl ?_
          iterate 5 refine st (m := false) tabok rfl rfl rfl (by (repeat' apply And.intro); all_goals first | exact True.intro | rfl | omega | (simp only [inr]; omega) | (simp only [IntKind.bits]; omega) | exact fun h => h | (intro hq; rw [hq]; rfl) | (simp only [Int.toNat_natCast, dflt_i, dflt_b, dflt_l, dflt_p, Int.toNat_zero, gt_iff_lt, ge_iff_le]; omega) | (simp only [ti3, ti4, ti23, ti46]; omega) | (simp [ti3, ti4, ti23, ti46]; omega) | (simp_all; done) | (simp [SV.cellsL, SV.cells]; done) | (simp [SV.cellsL, SV.cells]; omega)) ?_
          refine ops_nil ?_
          refine aw_seq ?_
          refine aw_reg _ (by kernel_rfl) rfl ?_
          iterate 7 refine st (m := false) tabok rfl rfl rfl (by (repeat' apply And.intro); all_goals first | exact True.intro | rfl | omega | (simp only [inr]; omega) | (simp only [IntKind.bits]; omega) | exact fun h => h | (intro hq; rw [hq]; rfl) | (simp only [Int.toNat_natCast, dflt_i, dflt_b, dflt_l, dflt_p, Int.toNat_zero, gt_iff_lt, ge_iff_le]; omega) | (simp only [ti3, ti4, ti23, ti46]; omega) | (simp [ti3, ti4, ti23, ti46]; omega) | (simp_all; done) | (simp [SV.cellsL, SV.cells]; done) | (simp [SV.cellsL, SV.cells]; omega)) ?_
          refine st0 (m := false) tabok rfl rfl rfl (by (repeat' apply And.intro); all_goals first | exact True.intro | rfl | omega | (simp only [inr]; omega) | (simp only [IntKind.bits]; omega) | exact fun h => h | (intro hq; rw [hq]; rfl) | (simp only [Int.toNat_natCast, dflt_i, dflt_b, dflt_l, dflt_p, Int.toNat_zero, gt_iff_lt, ge_iff_le]; omega) | (simp only [ti3, ti4, ti23, ti46]; omega) | (simp [ti3, ti4, ti23, ti46]; omega) | (simp_all; done) | (simp [SV.cellsL, SV.cells]; done) | (simp [SV.cellsL, SV.cells]; omega)) ?_
          refine ops_nil ?_
          refine aw_reg _ (by kernel_rfl) rfl ?_
          iterate 4 refine st (m := false) tabok rfl rfl rfl (by (repeat' apply And.intro); all_goals first | exact True.intro | rfl | omega | (simp only [inr]; omega) | (simp only [IntKind.bits]; omega) | exact fun h => h | (intro hq; rw [hq]; rfl) | (simp only [Int.toNat_natCast, dflt_i, dflt_b, dflt_l, dflt_p, Int.toNat_zero, gt_iff_lt, ge_iff_le]; omega) | (simp only [ti3, ti4, ti23, ti46]; omega) | (simp [ti3, ti4, ti23, ti46]; omega) | (simp_all; done) | (simp [SV.cellsL, SV.cells]; done) | (simp [SV.cellsL, SV.cells]; omega)) ?_
          refine st0 (m := false) tabok rfl rfl rfl (by (repeat' apply And.intro); all_goals first | exact True.intro | rfl | omega | (simp only [inr]; omega) | (simp only [IntKind.bits]; omega) | exact fun h => h | (intro hq; rw [hq]; rfl) | (simp only [Int.toNat_natCast, dflt_i, dflt_b, dflt_l, dflt_p, Int.toNat_zero, gt_iff_lt, ge_iff_le]; omega) | (simp only [ti3, ti4, ti23, ti46]; omega) | (simp [ti3, ti4, ti23, ti46]; omega) | (simp_all; done) | (simp [SV.cellsL, SV.cells]; done) | (simp [SV.cellsL, SV.cells]; omega)) ?_
          refine ops_nil ?_
          refine aw_reg _ (by kernel_rfl) rfl ?_
          iterate 3 refine st (m := false) tabok rfl rfl rfl (by (repeat' apply And.intro); all_goals first | exact True.intro | rfl | omega | (simp only [inr]; omega) | (simp only [IntKind.bits]; omega) | exact fun h => h | (intro hq; rw [hq]; rfl) | (simp only [Int.toNat_natCast, dflt_i, dflt_b, dflt_l, dflt_p, Int.toNat_zero, gt_iff_lt, ge_iff_le]; omega) | (simp only [ti3, ti4, ti23, ti46]; omega) | (simp [ti3, ti4, ti23, ti46]; omega) | (simp_all; done) | (simp [SV.cellsL, SV.cells]; done) | (simp [SV.cellsL, SV.cells]; omega)) ?_
          refine ops_nil ?_
          -- leaf L1.8t
          refine Exists.intro ((j - 1, nx d', swap l j.toNat (bk d' (j + 1)).toNat)) ⟨?_, ?_, ?_⟩
          · exact goes_to (tm := _) (st := _) [true] rfl rfl ⟨(by first | rfl | exact q_lst (by simp) | exact q_grow (by simp)), True.intro⟩ ⟨(by first | exact sk rfl rfl | exact sk (q_int (by omega)) rfl | exact sk (q_bool (by simp)) rfl | exact sk (q_view rfl rfl rfl (by omega)) rfl | exact sk (q_gview rfl (by simp)) rfl | exact sk (q_nil rfl) rfl | exact sk (q_row (by simp)) rfl | exact sk_g rfl rfl rfl rfl | exact sk_v rfl rfl rfl rfl rfl | exact sk_n rfl), (by first | exact sk rfl rfl | exact sk (q_int (by omega)) rfl | exact sk (q_bool (by simp)) rfl | exact sk (q_view rfl rfl rfl (by omega)) rfl | exact sk (q_gview rfl (by simp)) rfl | exact sk (q_nil rfl) rfl | exact sk (q_row (by simp)) rfl | exact sk_g rfl rfl rfl rfl | exact sk_v rfl rfl rfl rfl rfl | exact sk_n rfl), (by first | exact sk rfl rfl | exact sk (q_int (by omega)) rfl | exact sk (q_bool (by simp)) rfl | exact sk (q_view rfl rfl rfl (by omega)) rfl | exact sk (q_gview rfl (by simp)) rfl | exact sk (q_nil rfl) rfl | exact sk (q_row (by simp)) rfl | exact sk_g rfl rfl rfl rfl | exact sk_v rfl rfl rfl rfl rfl | exact sk_n rfl), True.intro⟩
          · try dsimp only
            refine ⟨by omega, by rw [swap_len]; exact hl, ?_⟩
            rw [← hs, show j.toNat = (j - 1).toNat + 1 by omega, shuf, show (((j - 1).toNat : Nat) : Int) + 2 = j + 1 by omega]
          · (try dsimp only); omega
        · try simp only [Bool.or_eq_true, Bool.and_eq_true, Bool.not_eq_true', Bool.not_eq_false', Bool.or_eq_false_iff, Bool.and_eq_false_imp, decide_eq_true_eq, decide_eq_false_iff_not, Bool.not_true, Bool.not_false, beq_iff_eq, Bool.not_eq_true, Bool.not_eq_false, Bool.true_eq_false, Bool.false_eq_true, not_or, Decidable.not_not, ne_eq] at c8
          try simp only [Int.toNat_natCast, dflt_i, dflt_b, dflt_l, dflt_p, Int.toNat_zero, gt_iff_lt, ge_iff_le] at c8
          refine aw_exit ?_
          refine aw_seq ?_
          refine aw_reg _ (by kernel_rfl) rfl ?_
          iterate 4 refine st (m := false) tabok rfl rfl rfl (by (repeat' apply And.intro); all_goals first | exact True.intro | rfl | omega | (simp only [inr]; omega) | (simp only [IntKind.bits]; omega) | exact fun h => h | (intro hq; rw [hq]; rfl) | (simp only [Int.toNat_natCast, dflt_i, dflt_b, dflt_l, dflt_p, Int.toNat_zero, gt_iff_lt, ge_iff_le]; omega) | (simp only [ti3, ti4, ti23, ti46]; omega) | (simp [ti3, ti4, ti23, ti46]; omega) | (simp_all; done) | (simp [SV.cellsL, SV.cells]; done) | (simp [SV.cellsL, SV.cells]; omega)) ?_
          refine ops_nil ?_
          refine aw_ret ?_
          -- leaf ret.8f
          refine ret_c ?_
          have e0 : j.toNat = 0 := by omega
          rw [e0, shuf] at hs
          exact fs_tup (.cons (fs_int (by rw [← hs])) (.cons (fs_all rfl rfl hl.symm (by rw [← hs])) .nil))
theorem among_ok (l : List Int) (x : Int) (hl : l.length ≤ 1000000) : CS Try.prog 73 [.row TI64 l, .int .i64 x] (.bool (decide (x ∈ l))) := by
  refine fn_c [4] Try.func73 Try.ntmps73 rfl rfl rfl rfl ?_
  refine aw_seq ?_
  refine aw_reg _ (by kernel_rfl) rfl ?_
  refine st (m := false) tabok rfl rfl rfl (by (repeat' apply And.intro); all_goals first | exact True.intro | rfl | omega | (simp only [inr]; omega) | (simp only [IntKind.bits]; omega) | exact fun h => h | (intro hq; rw [hq]; rfl) | (simp only [Int.toNat_natCast, dflt_i, dflt_b, dflt_l, dflt_p, Int.toNat_zero, gt_iff_lt, ge_iff_le]; omega) | (simp only [ti3, ti4, ti23, ti46]; omega) | (simp [ti3, ti4, ti23, ti46]; omega) | (simp_all; done) | (simp [SV.cellsL, SV.cells]; done) | (simp [SV.cellsL, SV.cells]; omega)) ?_
  refine ops_nil ?_
  refine aw_seq ?_
  refine aw_seq ?_
  refine aw_reg _ (by kernel_rfl) rfl ?_
  refine st (m := false) tabok rfl rfl rfl (by (repeat' apply And.intro); all_goals first | exact True.intro | rfl | omega | (simp only [inr]; omega) | (simp only [IntKind.bits]; omega) | exact fun h => h | (intro hq; rw [hq]; rfl) | (simp only [Int.toNat_natCast, dflt_i, dflt_b, dflt_l, dflt_p, Int.toNat_zero, gt_iff_lt, ge_iff_le]; omega) | (simp only [ti3, ti4, ti23, ti46]; omega) | (simp [ti3, ti4, ti23, ti46]; omega) | (simp_all; done) | (simp [SV.cellsL, SV.cells]; done) | (simp [SV.cellsL, SV.cells]; omega)) ?_
  refine ops_nil ?_
  refine aw_block ?_
  refine aw_loop (X := (Nat)) (fun (i : Nat) => outT (look [(0, .row TI64 l), (1, .int .i64 x), (5, .int .i64 i)])) (fun (i : Nat) => outS []) (fun (i : Nat) => (i ≤ l.length) ∧ (∀ j, j < i → l.getD j 0 ≠ x)) (fun (i : Nat) => l.length - i) (0) ?_ ?_ ?_
  -- leaf L0:entry
  · exact goes_to (tm := _) (st := _) [] rfl rfl True.intro ⟨(by first | exact sk rfl rfl | exact sk (q_int (by omega)) rfl | exact sk (q_bool (by simp)) rfl | exact sk (q_view rfl rfl rfl (by omega)) rfl | exact sk (q_gview rfl (by simp)) rfl | exact sk (q_nil rfl) rfl | exact sk (q_row (by simp)) rfl | exact sk_g rfl rfl rfl rfl | exact sk_v rfl rfl rfl rfl rfl | exact sk_n rfl), (by first | exact sk rfl rfl | exact sk (q_int (by omega)) rfl | exact sk (q_bool (by simp)) rfl | exact sk (q_view rfl rfl rfl (by omega)) rfl | exact sk (q_gview rfl (by simp)) rfl | exact sk (q_nil rfl) rfl | exact sk (q_row (by simp)) rfl | exact sk_g rfl rfl rfl rfl | exact sk_v rfl rfl rfl rfl rfl | exact sk_n rfl), (by first | exact sk rfl rfl | exact sk (q_int (by omega)) rfl | exact sk (q_bool (by simp)) rfl | exact sk (q_view rfl rfl rfl (by omega)) rfl | exact sk (q_gview rfl (by simp)) rfl | exact sk (q_nil rfl) rfl | exact sk (q_row (by simp)) rfl | exact sk_g rfl rfl rfl rfl | exact sk_v rfl rfl rfl rfl rfl | exact sk_n rfl), True.intro⟩
  · exact ⟨by omega, fun j hj => absurd hj (by omega)⟩
  · skip
    rintro i ⟨hi, hb⟩
    change awpB _ _ _ _ _ (outT (look [(0, .row TI64 l), (1, .int .i64 x), (5, .int .i64 i)])) (outS [])
    refine aw_seq ?_
    refine aw_seq ?_
    refine aw_reg _ (by kernel_rfl) rfl ?_
    iterate 4 refine st (m := false) tabok rfl rfl rfl (by (repeat' apply And.intro); all_goals first | exact True.intro | rfl | omega | (simp only [inr]; omega) | (simp only [IntKind.bits]; omega) | exact fun h => h | (intro hq; rw [hq]; rfl) | (simp only [Int.toNat_natCast, dflt_i, dflt_b, dflt_l, dflt_p, Int.toNat_zero, gt_iff_lt, ge_iff_le]; omega) | (simp only [ti3, ti4, ti23, ti46]; omega) | (simp [ti3, ti4, ti23, ti46]; omega) | (simp_all; done) | (simp [SV.cellsL, SV.cells]; done) | (simp [SV.cellsL, SV.cells]; omega)) ?_
    refine ops_nil ?_
    refine aw_if rfl (fun c2 => ?_) (fun c2 => ?_)
    · try simp only [Bool.or_eq_true, Bool.and_eq_true, Bool.not_eq_true', Bool.not_eq_false', Bool.or_eq_false_iff, Bool.and_eq_false_imp, decide_eq_true_eq, decide_eq_false_iff_not, Bool.not_true, Bool.not_false, beq_iff_eq, Bool.not_eq_true, Bool.not_eq_false, Bool.true_eq_false, Bool.false_eq_true, not_or, Decidable.not_not, ne_eq] at c2
      try simp only [Int.toNat_natCast, dflt_i, dflt_b, dflt_l, dflt_p, Int.toNat_zero, gt_iff_lt, ge_iff_le] at c2
      refine aw_skip ?_
      refine aw_seq ?_
      refine aw_block ?_
      refine aw_seq ?_
      refine aw_reg _ (by kernel_rfl) rfl ?_
      iterate 6 refine st (m := false) tabok rfl rfl rfl (by (repeat' apply And.intro); all_goals first | exact True.intro | rfl | omega | (simp only [inr]; omega) | (simp only [IntKind.bits]; omega) | exact fun h => h | (intro hq; rw [hq]; rfl) | (simp only [Int.toNat_natCast, dflt_i, dflt_b, dflt_l, dflt_p, Int.toNat_zero, gt_iff_lt, ge_iff_le]; omega) | (simp only [ti3, ti4, ti23, ti46]; omega) | (simp [ti3, ti4, ti23, ti46]; omega) | (simp_all; done) | (simp [SV.cellsL, SV.cells]; done) | (simp [SV.cellsL, SV.cells]; omega)) ?_
      refine ops_nil ?_
      refine aw_if rfl (fun c4 => ?_) (fun c4 => ?_)
      · try simp only [Bool.or_eq_true, Bool.and_eq_true, Bool.not_eq_true', Bool.not_eq_false', Bool.or_eq_false_iff, Bool.and_eq_false_imp, decide_eq_true_eq, decide_eq_false_iff_not, Bool.not_true, Bool.not_false, beq_iff_eq, Bool.not_eq_true, Bool.not_eq_false, Bool.true_eq_false, Bool.false_eq_true, not_or, Decidable.not_not, ne_eq] at c4
        try simp only [Int.toNat_natCast, dflt_i, dflt_b, dflt_l, dflt_p, Int.toNat_zero, gt_iff_lt, ge_iff_le] at c4
        refine aw_seq ?_
        refine aw_reg _ (by kernel_rfl) rfl ?_
        refine st (m := false) tabok rfl rfl rfl (by (repeat' apply And.intro); all_goals first | exact True.intro | rfl | omega | (simp only [inr]; omega) | (simp only [IntKind.bits]; omega) | exact fun h => h | (intro hq; rw [hq]; rfl) | (simp only [Int.toNat_natCast, dflt_i, dflt_b, dflt_l, dflt_p, Int.toNat_zero, gt_iff_lt, ge_iff_le]; omega) | (simp only [ti3, ti4, ti23, ti46]; omega) | (simp [ti3, ti4, ti23, ti46]; omega) | (simp_all; done) | (simp [SV.cellsL, SV.cells]; done) | (simp [SV.cellsL, SV.cells]; omega)) ?_
        refine ops_nil ?_
        refine aw_ret ?_
        -- leaf ret.2t.4t
        refine ret_c ?_
        refine fs_tt (decide_eq_true ?_)
        have e : l.getD i 0 = x := c4
        rw [getD_at 0 (by omega)] at e
        rw [← e]
        exact List.getElem_mem _
      · try simp only [Bool.or_eq_true, Bool.and_eq_true, Bool.not_eq_true', Bool.not_eq_false', Bool.or_eq_false_iff, Bool.and_eq_false_imp, decide_eq_true_eq, decide_eq_false_iff_not, Bool.not_true, Bool.not_false, beq_iff_eq, Bool.not_eq_true, Bool.not_eq_false, Bool.true_eq_false, Bool.false_eq_true, not_or, Decidable.not_not, ne_eq] at c4
        try simp only [Int.toNat_natCast, dflt_i, dflt_b, dflt_l, dflt_p, Int.toNat_zero, gt_iff_lt, ge_iff_le] at c4
        refine aw_skip ?_
        refine aw_reg _ (by kernel_rfl) rfl ?_
        iterate 3 refine st (m := false) tabok rfl rfl rfl (by (repeat' apply And.intro); all_goals first | exact True.intro | rfl | omega | (simp only [inr]; omega) | (simp only [IntKind.bits]; omega) | exact fun h => h | (intro hq; rw [hq]; rfl) | (simp only [Int.toNat_natCast, dflt_i, dflt_b, dflt_l, dflt_p, Int.toNat_zero, gt_iff_lt, ge_iff_le]; omega) | (simp only [ti3, ti4, ti23, ti46]; omega) | (simp [ti3, ti4, ti23, ti46]; omega) | (simp_all; done) | (simp [SV.cellsL, SV.cells]; done) | (simp [SV.cellsL, SV.cells]; omega)) ?_
        refine ops_nil ?_
        -- leaf L0.2t.4f
        refine Exists.intro (i + 1) ⟨?_, ?_, ?_⟩
        · exact goes_to (tm := _) (st := _) [] rfl rfl True.intro ⟨(by first | exact sk rfl rfl | exact sk (q_int (by omega)) rfl | exact sk (q_bool (by simp)) rfl | exact sk (q_view rfl rfl rfl (by omega)) rfl | exact sk (q_gview rfl (by simp)) rfl | exact sk (q_nil rfl) rfl | exact sk (q_row (by simp)) rfl | exact sk_g rfl rfl rfl rfl | exact sk_v rfl rfl rfl rfl rfl | exact sk_n rfl), (by first | exact sk rfl rfl | exact sk (q_int (by omega)) rfl | exact sk (q_bool (by simp)) rfl | exact sk (q_view rfl rfl rfl (by omega)) rfl | exact sk (q_gview rfl (by simp)) rfl | exact sk (q_nil rfl) rfl | exact sk (q_row (by simp)) rfl | exact sk_g rfl rfl rfl rfl | exact sk_v rfl rfl rfl rfl rfl | exact sk_n rfl), (by first | exact sk rfl rfl | exact sk (q_int (by omega)) rfl | exact sk (q_bool (by simp)) rfl | exact sk (q_view rfl rfl rfl (by omega)) rfl | exact sk (q_gview rfl (by simp)) rfl | exact sk (q_nil rfl) rfl | exact sk (q_row (by simp)) rfl | exact sk_g rfl rfl rfl rfl | exact sk_v rfl rfl rfl rfl rfl | exact sk_n rfl), True.intro⟩
        · try dsimp only
          refine ⟨by omega, fun j hj => ?_⟩
          by_cases e : j = i
          · subst e; exact c4
          · exact hb j (by omega)
        · (try dsimp only); omega
    · try simp only [Bool.or_eq_true, Bool.and_eq_true, Bool.not_eq_true', Bool.not_eq_false', Bool.or_eq_false_iff, Bool.and_eq_false_imp, decide_eq_true_eq, decide_eq_false_iff_not, Bool.not_true, Bool.not_false, beq_iff_eq, Bool.not_eq_true, Bool.not_eq_false, Bool.true_eq_false, Bool.false_eq_true, not_or, Decidable.not_not, ne_eq] at c2
      try simp only [Int.toNat_natCast, dflt_i, dflt_b, dflt_l, dflt_p, Int.toNat_zero, gt_iff_lt, ge_iff_le] at c2
      refine aw_exit ?_
      refine aw_seq ?_
      refine aw_reg _ (by kernel_rfl) rfl ?_
      refine st (m := false) tabok rfl rfl rfl (by (repeat' apply And.intro); all_goals first | exact True.intro | rfl | omega | (simp only [inr]; omega) | (simp only [IntKind.bits]; omega) | exact fun h => h | (intro hq; rw [hq]; rfl) | (simp only [Int.toNat_natCast, dflt_i, dflt_b, dflt_l, dflt_p, Int.toNat_zero, gt_iff_lt, ge_iff_le]; omega) | (simp only [ti3, ti4, ti23, ti46]; omega) | (simp [ti3, ti4, ti23, ti46]; omega) | (simp_all; done) | (simp [SV.cellsL, SV.cells]; done) | (simp [SV.cellsL, SV.cells]; omega)) ?_
      refine ops_nil ?_
      refine aw_ret ?_
      -- leaf ret.2f
      refine ret_c ?_
      refine fs_ff (decide_eq_false fun hx => ?_)
      obtain ⟨j, hj, e⟩ := List.getElem_of_mem hx
      exact hb j (by omega) (by rw [getD_at 0 hj]; exact e)
end Go.Sim
end
section
namespace Go.Sim
open Go Go.Proofs
set_option maxRecDepth 10000
set_option autoImplicit false
set_option linter.unusedSimpArgs false
set_option linter.unusedVariables false
def flt (m : List Int) (i : Nat) : List Int := (iota i).filter fun x => decide (x ∈ m)
theorem flt_len (m : List Int) (i : Nat) : (flt m i).length ≤ i := by
  have := List.length_filter_le (fun x => decide (x ∈ m)) (iota i)
  simpa [flt, iota] using this
theorem iota_succ (i : Nat) : iota (i + 1) = iota i ++ [(i : Int)] := by simp [iota, List.range_succ]
theorem flt_yes {m : List Int} {i : Nat} (h : (i : Int) ∈ m) : flt m (i + 1) = flt m i ++ [(i : Int)] := by simp [flt, iota_succ, List.filter_append, h]
theorem flt_no {m : List Int} {i : Nat} (h : ¬ (i : Int) ∈ m) : flt m (i + 1) = flt m i := by simp [flt, iota_succ, List.filter_append, h]
theorem sorted_ext : ∀ (a b : List Int), a.Pairwise (· < ·) → b.Pairwise (· < ·) → (∀ x, x ∈ a ↔ x ∈ b) → a = b
  | [], [], _, _, _ => rfl
  | [], y :: b, _, _, h => by have := (h y).2 (by simp); simp at this
  | x :: a, [], _, _, h => by have := (h x).1 (by simp); simp at this
  | x :: a, y :: b, ha, hb, h => by
    rw [List.pairwise_cons] at ha hb
    have e : x = y := by
      have h1 := (h x).1 (by simp)
      have h2 := (h y).2 (by simp)
      rw [List.mem_cons] at h1 h2
      rcases h1 with h1 | h1
      · exact h1
      · rcases h2 with h2 | h2
        · exact h2.symm
        · have := hb.1 x h1
          have := ha.1 y h2
          omega
    subst e
    congr 1
    refine sorted_ext a b ha.2 hb.2 fun z => ⟨fun hz => ?_, fun hz => ?_⟩
    · have := (h z).1 (List.mem_cons_of_mem _ hz)
      rw [List.mem_cons] at this
      rcases this with h1 | h1
      · have := ha.1 z hz
        omega
      · exact h1
    · have := (h z).2 (List.mem_cons_of_mem _ hz)
      rw [List.mem_cons] at this
      rcases this with h1 | h1
      · have := hb.1 z hz
        omega
      · exact h1

theorem flt_lt (m : List Int) (n : Nat) : (flt m n).Pairwise (· < ·) := by
  refine List.Pairwise.filter _ ?_
  rw [iota, List.pairwise_map]
  exact List.pairwise_lt_range.imp fun h => by omega
theorem flt_sort {m : List Int} {n : Nat} (hn : m.Nodup) (hr : ∀ x, x ∈ m → 0 ≤ x ∧ x < n) : flt m n = m.mergeSort fun x y => decide (x ≤ y) := by
  refine sorted_ext _ _ (flt_lt m n) (sort_lt hn) fun x => ?_
  rw [List.mem_mergeSort]
  simp only [flt, List.mem_filter, decide_eq_true_eq]
  refine ⟨fun h => h.2, fun h => ⟨?_, h⟩⟩
  have := hr x h
  rw [iota, List.mem_map]
  exact ⟨x.toNat, by rw [List.mem_range]; omega, by omega⟩


theorem flt_smp (d lot : Int) (N : Nat) : flt ((shufOf d lot).2.take N) (cn lot).toNat = smpL d lot N := by
  have hD := shufOf_dist d lot
  exact flt_sort (hD.nodup.sublist (List.take_sublist _ _)) fun x hx => hD.mem (List.mem_of_mem_take hx)
theorem refsample_ok (d n k : Int) : CS Try.prog 44 [.int .u64 d, .int .i64 n, .int .i64 k] (.tup [.int .u64 (shufOf d n).1, .row TI64 (smpL d n (clN k (cn n).toNat))]) := by
  have hlen := shufOf_len d n
  have hN := cn_range n
  have hK : clN k (cn n).toNat ≤ (cn n).toNat := by unfold clN; omega
  have hK2 : (max 0 (min k ((shufOf d n).2.length : Nat))) = ((clN k (cn n).toNat : Nat) : Int) := by rw [hlen]; unfold clN; omega
  refine fn_c [6, 7] Try.func44 Try.ntmps44 rfl rfl rfl rfl ?_
  refine aw_seq ?_
  refine aw_reg _ (by kernel_rfl) rfl ?_
  iterate 2 refine st (m := false) tabok rfl rfl rfl (by (repeat' apply And.intro); all_goals first | exact True.intro | rfl | omega | (simp only [inr]; omega) | (simp only [IntKind.bits]; omega) | exact fun h => h | (intro hq; rw [hq]; rfl) | (simp only [Int.toNat_natCast, dflt_i, dflt_b, dflt_l, dflt_p, Int.toNat_zero, gt_iff_lt, ge_iff_le]; omega) | (simp only [ti3, ti4, ti23, ti46]; omega) | (simp [ti3, ti4, ti23, ti46]; omega) | (simp_all; done) | (simp [SV.cellsL, SV.cells]; done) | (simp [SV.cellsL, SV.cells]; omega)) ?_
  refine ops_nil ?_
  refine aw_seq ?_
  refine aw_reg _ (by kernel_rfl) rfl ?_
  iterate 2 refine st (m := false) tabok rfl rfl rfl (by (repeat' apply And.intro); all_goals first | exact True.intro | rfl | omega | (simp only [inr]; omega) | (simp only [IntKind.bits]; omega) | exact fun h => h | (intro hq; rw [hq]; rfl) | (simp only [Int.toNat_natCast, dflt_i, dflt_b, dflt_l, dflt_p, Int.toNat_zero, gt_iff_lt, ge_iff_le]; omega) | (simp only [ti3, ti4, ti23, ti46]; omega) | (simp [ti3, ti4, ti23, ti46]; omega) | (simp_all; done) | (simp [SV.cellsL, SV.cells]; done) | (simp [SV.cellsL, SV.cells]; omega)) ?_
  refine sc (refshuffle_ok d n) rfl rfl (by kernel_rfl) rfl (by kernel_rfl) (.cons (by first | exact argw_same | exact argw_nil | exact argw_tt | exact argw_ff | exact argw_eq rfl) (.cons (by first | exact argw_same | exact argw_nil | exact argw_tt | exact argw_ff | exact argw_eq rfl) .nil)) ?_
  iterate 5 refine st (m := false) tabok rfl rfl rfl (by (repeat' apply And.intro); all_goals first | exact True.intro | rfl | omega | (simp only [inr]; omega) | (simp only [IntKind.bits]; omega) | exact fun h => h | (intro hq; rw [hq]; rfl) | (simp only [Int.toNat_natCast, dflt_i, dflt_b, dflt_l, dflt_p, Int.toNat_zero, gt_iff_lt, ge_iff_le]; omega) | (simp only [ti3, ti4, ti23, ti46]; omega) | (simp [ti3, ti4, ti23, ti46]; omega) | (simp_all; done) | (simp [SV.cellsL, SV.cells]; done) | (simp [SV.cellsL, SV.cells]; omega)) ?_
  refine ops_nil ?_
  refine aw_seq ?_
  refine aw_reg _ (by kernel_rfl) rfl ?_
  iterate 3 refine st (m := false) tabok rfl rfl rfl (by (repeat' apply And.intro); all_goals first | exact True.intro | rfl | omega | (simp only [inr]; omega) | (simp only [IntKind.bits]; omega) | exact fun h => h | (intro hq; rw [hq]; rfl) | (simp only [Int.toNat_natCast, dflt_i, dflt_b, dflt_l, dflt_p, Int.toNat_zero, gt_iff_lt, ge_iff_le]; omega) | (simp only [ti3, ti4, ti23, ti46]; omega) | (simp [ti3, ti4, ti23, ti46]; omega) | (simp_all; done) | (simp [SV.cellsL, SV.cells]; done) | (simp [SV.cellsL, SV.cells]; omega)) ?_
  refine sc (limited_ok k ((shufOf d n).2.length : Nat)) rfl rfl (by kernel_rfl) rfl (by kernel_rfl) (.cons (by first | exact argw_same | exact argw_nil | exact argw_tt | exact argw_ff | exact argw_eq rfl) (.cons (by first | exact argw_same | exact argw_nil | exact argw_tt | exact argw_ff | exact argw_eq rfl) .nil)) ?_
  refine st (m := false) tabok rfl rfl rfl (by (repeat' apply And.intro); all_goals first | exact True.intro | rfl | omega | (simp only [inr]; omega) | (simp only [IntKind.bits]; omega) | exact fun h => h | (intro hq; rw [hq]; rfl) | (simp only [Int.toNat_natCast, dflt_i, dflt_b, dflt_l, dflt_p, Int.toNat_zero, gt_iff_lt, ge_iff_le]; omega) | (simp only [ti3, ti4, ti23, ti46]; omega) | (simp [ti3, ti4, ti23, ti46]; omega) | (simp_all; done) | (simp [SV.cellsL, SV.cells]; done) | (simp [SV.cellsL, SV.cells]; omega)) ?_
  refine ops_nil ?_
  refine aw_seq ?_
  refine aw_reg _ (by kernel_rfl) rfl ?_
  refine st (m := false) tabok rfl rfl rfl (by (repeat' apply And.intro); all_goals first | exact True.intro | rfl | omega | (simp only [inr]; omega) | (simp only [IntKind.bits]; omega) | exact fun h => h | (intro hq; rw [hq]; rfl) | (simp only [Int.toNat_natCast, dflt_i, dflt_b, dflt_l, dflt_p, Int.toNat_zero, gt_iff_lt, ge_iff_le]; omega) | (simp only [ti3, ti4, ti23, ti46]; omega) | (simp [ti3, ti4, ti23, ti46]; omega) | (simp_all; done) | (simp [SV.cellsL, SV.cells]; done) | (simp [SV.cellsL, SV.cells]; omega)) ?_
  refine ops_nil ?_
  refine aw_seq ?_
  refine aw_seq ?_
  refine aw_reg _ (by kernel_rfl) rfl ?_
  refine st (m := false) tabok rfl rfl rfl (by (repeat' apply And.intro); all_goals first | exact True.intro | rfl | omega | (simp only [inr]; omega) | (simp only [IntKind.bits]; omega) | exact fun h => h | (intro hq; rw [hq]; rfl) | (simp only [Int.toNat_natCast, dflt_i, dflt_b, dflt_l, dflt_p, Int.toNat_zero, gt_iff_lt, ge_iff_le]; omega) | (simp only [ti3, ti4, ti23, ti46]; omega) | (simp [ti3, ti4, ti23, ti46]; omega) | (simp_all; done) | (simp [SV.cellsL, SV.cells]; done) | (simp [SV.cellsL, SV.cells]; omega)) ?_
  refine ops_nil ?_
  refine aw_block ?_
  refine aw_loop (X := (Nat)) (fun (i : Nat) => outT (look [(2, .int .i64 (clN k (cn n).toNat)), (8, .int .u64 (shufOf d n).1), (9, .row TI64 (shufOf d n).2), (10, .gview 0 (flt ((shufOf d n).2.take (clN k (cn n).toNat)) i).length), (11, .int .i64 i)])) (fun (i : Nat) => outS [.grow 3 TI64 (flt ((shufOf d n).2.take (clN k (cn n).toNat)) i)]) (fun (i : Nat) => (i ≤ (cn n).toNat)) (fun (i : Nat) => (cn n).toNat - i) (0) ?_ ?_ ?_
  -- leaf L0:entry
  · exact goes_to (tm := _) (st := _) [] rfl rfl ⟨rfl, True.intro⟩ ⟨(by first | exact sk rfl rfl | exact sk (q_int (by omega)) rfl | exact sk (q_bool (by simp)) rfl | exact sk (q_view rfl rfl rfl (by omega)) rfl | exact sk (q_gview rfl (by simp)) rfl | exact sk (q_nil rfl) rfl | exact sk (q_row (by simp)) rfl | exact sk_g rfl rfl rfl rfl | exact sk_v rfl rfl rfl rfl rfl | exact sk_n rfl), (by first | exact sk rfl rfl | exact sk (q_int (by omega)) rfl | exact sk (q_bool (by simp)) rfl | exact sk (q_view rfl rfl rfl (by omega)) rfl | exact sk (q_gview rfl (by simp)) rfl | exact sk (q_nil rfl) rfl | exact sk (q_row (by simp)) rfl | exact sk_g rfl rfl rfl rfl | exact sk_v rfl rfl rfl rfl rfl | exact sk_n rfl), (by first | exact sk rfl rfl | exact sk (q_int (by omega)) rfl | exact sk (q_bool (by simp)) rfl | exact sk (q_view rfl rfl rfl (by omega)) rfl | exact sk (q_gview rfl (by simp)) rfl | exact sk (q_nil rfl) rfl | exact sk (q_row (by simp)) rfl | exact sk_g rfl rfl rfl rfl | exact sk_v rfl rfl rfl rfl rfl | exact sk_n rfl), (by refine sk ?_ rfl; exact q_nil (by simp [flt, iota])), (by first | exact sk rfl rfl | exact sk (q_int (by omega)) rfl | exact sk (q_bool (by simp)) rfl | exact sk (q_view rfl rfl rfl (by omega)) rfl | exact sk (q_gview rfl (by simp)) rfl | exact sk (q_nil rfl) rfl | exact sk (q_row (by simp)) rfl | exact sk_g rfl rfl rfl rfl | exact sk_v rfl rfl rfl rfl rfl | exact sk_n rfl), True.intro⟩
  · first | omega | assumption | simp
  · skip
    rintro i hi
    change awpB _ _ _ _ _ (outT (look [(2, .int .i64 (clN k (cn n).toNat)), (8, .int .u64 (shufOf d n).1), (9, .row TI64 (shufOf d n).2), (10, .gview 0 (flt ((shufOf d n).2.take (clN k (cn n).toNat)) i).length), (11, .int .i64 i)])) (outS [.grow 3 TI64 (flt ((shufOf d n).2.take (clN k (cn n).toNat)) i)])
    have f1 := flt_len ((shufOf d n).2.take (clN k (cn n).toNat)) i
    refine aw_seq ?_
    refine aw_seq ?_
    refine aw_reg _ (by kernel_rfl) rfl ?_
    iterate 4 refine st (m := false) tabok rfl rfl rfl (by (repeat' apply And.intro); all_goals first | exact True.intro | rfl | omega | (simp only [inr]; omega) | (simp only [IntKind.bits]; omega) | exact fun h => h | (intro hq; rw [hq]; rfl) | (simp only [Int.toNat_natCast, dflt_i, dflt_b, dflt_l, dflt_p, Int.toNat_zero, gt_iff_lt, ge_iff_le]; omega) | (simp only [ti3, ti4, ti23, ti46]; omega) | (simp [ti3, ti4, ti23, ti46]; omega) | (simp_all; done) | (simp [SV.cellsL, SV.cells]; done) | (simp [SV.cellsL, SV.cells]; omega)) ?_
    refine ops_nil ?_
    refine aw_if rfl (fun c5 => ?_) (fun c5 => ?_)
    · try simp only [Bool.or_eq_true, Bool.and_eq_true, Bool.not_eq_true', Bool.not_eq_false', Bool.or_eq_false_iff, Bool.and_eq_false_imp, decide_eq_true_eq, decide_eq_false_iff_not, Bool.not_true, Bool.not_false, beq_iff_eq, Bool.not_eq_true, Bool.not_eq_false, Bool.true_eq_false, Bool.false_eq_true, not_or, Decidable.not_not, ne_eq] at c5
      try simp only [Int.toNat_natCast, dflt_i, dflt_b, dflt_l, dflt_p, Int.toNat_zero, gt_iff_lt, ge_iff_le] at c5
      refine aw_skip ?_
      refine aw_seq ?_
      refine aw_block ?_
      refine aw_seq ?_
      refine aw_reg _ (by kernel_rfl) rfl ?_
      iterate 4 refine st (m := false) tabok rfl rfl rfl (by (repeat' apply And.intro); all_goals first | exact True.intro | rfl | omega | (simp only [inr]; omega) | (simp only [IntKind.bits]; omega) | exact fun h => h | (intro hq; rw [hq]; rfl) | (simp only [Int.toNat_natCast, dflt_i, dflt_b, dflt_l, dflt_p, Int.toNat_zero, gt_iff_lt, ge_iff_le]; omega) | (simp only [ti3, ti4, ti23, ti46]; omega) | (simp [ti3, ti4, ti23, ti46]; omega) | (simp_all; done) | (simp [SV.cellsL, SV.cells]; done) | (simp [SV.cellsL, SV.cells]; omega)) ?_
      refine sc (among_ok ((shufOf d n).2.take (clN k (cn n).toNat)) i (by simp; omega)) rfl rfl (by kernel_rfl) rfl (by kernel_rfl) (.cons (by first | exact argw_same | exact argw_nil | exact argw_tt | exact argw_ff | exact argw_eq rfl) (.cons (by first | exact argw_same | exact argw_nil | exact argw_tt | exact argw_ff | exact argw_eq rfl) .nil)) ?_
      refine ops_nil ?_
      refine aw_if rfl (fun c7 => ?_) (fun c7 => ?_)
      · try simp only [Bool.or_eq_true, Bool.and_eq_true, Bool.not_eq_true', Bool.not_eq_false', Bool.or_eq_false_iff, Bool.and_eq_false_imp, decide_eq_true_eq, decide_eq_false_iff_not, Bool.not_true, Bool.not_false, beq_iff_eq, Bool.not_eq_true, Bool.not_eq_false, Bool.true_eq_false, Bool.false_eq_true, not_or, Decidable.not_not, ne_eq] at c7
        try simp only [Int.toNat_natCast, dflt_i, dflt_b, dflt_l, dflt_p, Int.toNat_zero, gt_iff_lt, ge_iff_le] at c7
        refine aw_reg _ (by kernel_rfl) rfl ?_
        iterate 2 refine st (m := false) tabok rfl rfl rfl (by (repeat' apply And.intro); all_goals first | exact True.intro | rfl | omega | (simp only [inr]; omega) | (simp only [IntKind.bits]; omega) | exact fun h => h | (intro hq; rw [hq]; rfl) | (simp only [Int.toNat_natCast, dflt_i, dflt_b, dflt_l, dflt_p, Int.toNat_zero, gt_iff_lt, ge_iff_le]; omega) | (simp only [ti3, ti4, ti23, ti46]; omega) | (simp [ti3, ti4, ti23, ti46]; omega) | (simp_all; done) | (simp [SV.cellsL, SV.cells]; done) | (simp [SV.cellsL, SV.cells]; omega)) ?_
        refine stb tabok rfl rfl (by kernel_rfl) rfl ?_
        refine sap tabok rfl rfl (by kernel_rfl) rfl (by (repeat' apply And.intro); all_goals first | exact True.intro | rfl | omega | (simp [ti3]; omega)) ?_
        refine st (m := false) tabok rfl rfl rfl (by (repeat' apply And.intro); all_goals first | exact True.intro | rfl | omega | (simp only [inr]; omega) | (simp only [IntKind.bits]; omega) | exact fun h => h | (intro hq; rw [hq]; rfl) | (simp only [Int.toNat_natCast, dflt_i, dflt_b, dflt_l, dflt_p, Int.toNat_zero, gt_iff_lt, ge_iff_le]; omega) | (simp only [ti3, ti4, ti23, ti46]; omega) | (simp [ti3, ti4, ti23, ti46]; omega) | (simp_all; done) | (simp [SV.cellsL, SV.cells]; done) | (simp [SV.cellsL, SV.cells]; omega)) ?_
        refine ops_nil ?_
        refine aw_reg _ (by kernel_rfl) rfl ?_
        iterate 3 refine st (m := false) tabok rfl rfl rfl (by (repeat' apply And.intro); all_goals first | exact True.intro | rfl | omega | (simp only [inr]; omega) | (simp only [IntKind.bits]; omega) | exact fun h => h | (intro hq; rw [hq]; rfl) | (simp only [Int.toNat_natCast, dflt_i, dflt_b, dflt_l, dflt_p, Int.toNat_zero, gt_iff_lt, ge_iff_le]; omega) | (simp only [ti3, ti4, ti23, ti46]; omega) | (simp [ti3, ti4, ti23, ti46]; omega) | (simp_all; done) | (simp [SV.cellsL, SV.cells]; done) | (simp [SV.cellsL, SV.cells]; omega)) ?_
        refine ops_nil ?_
        -- leaf L0.5t.7t
        refine Exists.intro (i + 1) ⟨?_, ?_, ?_⟩
        · exact goes_to (tm := _) (st := _) [true] rfl rfl ⟨(by exact q_grow (flt_yes c7).symm), True.intro⟩ ⟨(by first | exact sk rfl rfl | exact sk (q_int (by omega)) rfl | exact sk (q_bool (by simp)) rfl | exact sk (q_view rfl rfl rfl (by omega)) rfl | exact sk (q_gview rfl (by simp)) rfl | exact sk (q_nil rfl) rfl | exact sk (q_row (by simp)) rfl | exact sk_g rfl rfl rfl rfl | exact sk_v rfl rfl rfl rfl rfl | exact sk_n rfl), (by first | exact sk rfl rfl | exact sk (q_int (by omega)) rfl | exact sk (q_bool (by simp)) rfl | exact sk (q_view rfl rfl rfl (by omega)) rfl | exact sk (q_gview rfl (by simp)) rfl | exact sk (q_nil rfl) rfl | exact sk (q_row (by simp)) rfl | exact sk_g rfl rfl rfl rfl | exact sk_v rfl rfl rfl rfl rfl | exact sk_n rfl), (by first | exact sk rfl rfl | exact sk (q_int (by omega)) rfl | exact sk (q_bool (by simp)) rfl | exact sk (q_view rfl rfl rfl (by omega)) rfl | exact sk (q_gview rfl (by simp)) rfl | exact sk (q_nil rfl) rfl | exact sk (q_row (by simp)) rfl | exact sk_g rfl rfl rfl rfl | exact sk_v rfl rfl rfl rfl rfl | exact sk_n rfl), (by refine sk ?_ rfl; exact q_gview rfl (by rw [flt_yes c7]; simp)), (by first | exact sk rfl rfl | exact sk (q_int (by omega)) rfl | exact sk (q_bool (by simp)) rfl | exact sk (q_view rfl rfl rfl (by omega)) rfl | exact sk (q_gview rfl (by simp)) rfl | exact sk (q_nil rfl) rfl | exact sk (q_row (by simp)) rfl | exact sk_g rfl rfl rfl rfl | exact sk_v rfl rfl rfl rfl rfl | exact sk_n rfl), True.intro⟩
        · try dsimp only
          first | omega | assumption | simp
        · (try dsimp only); omega
      · try simp only [Bool.or_eq_true, Bool.and_eq_true, Bool.not_eq_true', Bool.not_eq_false', Bool.or_eq_false_iff, Bool.and_eq_false_imp, decide_eq_true_eq, decide_eq_false_iff_not, Bool.not_true, Bool.not_false, beq_iff_eq, Bool.not_eq_true, Bool.not_eq_false, Bool.true_eq_false, Bool.false_eq_true, not_or, Decidable.not_not, ne_eq] at c7
        try simp only [Int.toNat_natCast, dflt_i, dflt_b, dflt_l, dflt_p, Int.toNat_zero, gt_iff_lt, ge_iff_le] at c7
        refine aw_skip ?_
        refine aw_reg _ (by kernel_rfl) rfl ?_
        iterate 3 refine st (m := false) tabok rfl rfl rfl (by (repeat' apply And.intro); all_goals first | exact True.intro | rfl | omega | (simp only [inr]; omega) | (simp only [IntKind.bits]; omega) | exact fun h => h | (intro hq; rw [hq]; rfl) | (simp only [Int.toNat_natCast, dflt_i, dflt_b, dflt_l, dflt_p, Int.toNat_zero, gt_iff_lt, ge_iff_le]; omega) | (simp only [ti3, ti4, ti23, ti46]; omega) | (simp [ti3, ti4, ti23, ti46]; omega) | (simp_all; done) | (simp [SV.cellsL, SV.cells]; done) | (simp [SV.cellsL, SV.cells]; omega)) ?_
        refine ops_nil ?_
        -- leaf L0.5t.7f
        refine Exists.intro (i + 1) ⟨?_, ?_, ?_⟩
        · exact goes_to (tm := _) (st := _) [true] rfl rfl ⟨(by exact q_grow (flt_no c7).symm), True.intro⟩ ⟨(by first | exact sk rfl rfl | exact sk (q_int (by omega)) rfl | exact sk (q_bool (by simp)) rfl | exact sk (q_view rfl rfl rfl (by omega)) rfl | exact sk (q_gview rfl (by simp)) rfl | exact sk (q_nil rfl) rfl | exact sk (q_row (by simp)) rfl | exact sk_g rfl rfl rfl rfl | exact sk_v rfl rfl rfl rfl rfl | exact sk_n rfl), (by first | exact sk rfl rfl | exact sk (q_int (by omega)) rfl | exact sk (q_bool (by simp)) rfl | exact sk (q_view rfl rfl rfl (by omega)) rfl | exact sk (q_gview rfl (by simp)) rfl | exact sk (q_nil rfl) rfl | exact sk (q_row (by simp)) rfl | exact sk_g rfl rfl rfl rfl | exact sk_v rfl rfl rfl rfl rfl | exact sk_n rfl), (by first | exact sk rfl rfl | exact sk (q_int (by omega)) rfl | exact sk (q_bool (by simp)) rfl | exact sk (q_view rfl rfl rfl (by omega)) rfl | exact sk (q_gview rfl (by simp)) rfl | exact sk (q_nil rfl) rfl | exact sk (q_row (by simp)) rfl | exact sk_g rfl rfl rfl rfl | exact sk_v rfl rfl rfl rfl rfl | exact sk_n rfl), (by refine sk ?_ rfl; exact q_gview rfl (by rw [flt_no c7])), (by first | exact sk rfl rfl | exact sk (q_int (by omega)) rfl | exact sk (q_bool (by simp)) rfl | exact sk (q_view rfl rfl rfl (by omega)) rfl | exact sk (q_gview rfl (by simp)) rfl | exact sk (q_nil rfl) rfl | exact sk (q_row (by simp)) rfl | exact sk_g rfl rfl rfl rfl | exact sk_v rfl rfl rfl rfl rfl | exact sk_n rfl), True.intro⟩
        · try dsimp only
          first | omega | assumption | simp
        · (try dsimp only); omega
    · try simp only [Bool.or_eq_true, Bool.and_eq_true, Bool.not_eq_true', Bool.not_eq_false', Bool.or_eq_false_iff, Bool.and_eq_false_imp, decide_eq_true_eq, decide_eq_false_iff_not, Bool.not_true, Bool.not_false, beq_iff_eq, Bool.not_eq_true, Bool.not_eq_false, Bool.true_eq_false, Bool.false_eq_true, not_or, Decidable.not_not, ne_eq] at c5
      try simp only [Int.toNat_natCast, dflt_i, dflt_b, dflt_l, dflt_p, Int.toNat_zero, gt_iff_lt, ge_iff_le] at c5
      refine aw_exit ?_
      refine aw_seq ?_
      refine aw_reg _ (by kernel_rfl) rfl ?_
      iterate 4 refine st (m := false) tabok rfl rfl rfl (by (repeat' apply And.intro); all_goals first | exact True.intro | rfl | omega | (simp only [inr]; omega) | (simp only [IntKind.bits]; omega) | exact fun h => h | (intro hq; rw [hq]; rfl) | (simp only [Int.toNat_natCast, dflt_i, dflt_b, dflt_l, dflt_p, Int.toNat_zero, gt_iff_lt, ge_iff_le]; omega) | (simp only [ti3, ti4, ti23, ti46]; omega) | (simp [ti3, ti4, ti23, ti46]; omega) | (simp_all; done) | (simp [SV.cellsL, SV.cells]; done) | (simp [SV.cellsL, SV.cells]; omega)) ?_
      refine ops_nil ?_
      refine aw_ret ?_
      -- leaf ret.5f
      refine ret_c ?_
      have e : i = (cn n).toNat := by omega
      subst e
      exact fs_tup (.cons (fs rfl) (.cons (fs_gview rfl rfl (flt_smp d n _)) .nil))
theorem refdraw_ok (d n c lot : Int) : CS Try.prog 24 [.int .u64 d, planV n c, .int .i64 lot] (.tup [.int .u64 (drawD d n c lot), .row TI64 (drawL d n c lot), .int .i64 (checkS n c lot)]) := by
  refine fn_c [6, 7, 8] Try.func24 Try.ntmps24 rfl rfl rfl rfl ?_
  refine aw_seq ?_
  refine aw_reg _ (by kernel_rfl) rfl ?_
  iterate 4 refine st (m := false) tabok rfl rfl rfl (by (repeat' apply And.intro); all_goals first | exact True.intro | rfl | omega | (simp only [inr]; omega) | (simp only [IntKind.bits]; omega) | exact fun h => h | (intro hq; rw [hq]; rfl) | (simp only [Int.toNat_natCast, dflt_i, dflt_b, dflt_l, dflt_p, Int.toNat_zero, gt_iff_lt, ge_iff_le]; omega) | (simp only [ti3, ti4, ti23, ti46]; omega) | (simp [ti3, ti4, ti23, ti46]; omega) | (simp_all; done) | (simp [SV.cellsL, SV.cells]; done) | (simp [SV.cellsL, SV.cells]; omega)) ?_
  refine ops_nil ?_
  refine aw_seq ?_
  refine aw_seq ?_
  refine aw_reg _ (by kernel_rfl) rfl ?_
  iterate 2 refine st (m := false) tabok rfl rfl rfl (by (repeat' apply And.intro); all_goals first | exact True.intro | rfl | omega | (simp only [inr]; omega) | (simp only [IntKind.bits]; omega) | exact fun h => h | (intro hq; rw [hq]; rfl) | (simp only [Int.toNat_natCast, dflt_i, dflt_b, dflt_l, dflt_p, Int.toNat_zero, gt_iff_lt, ge_iff_le]; omega) | (simp only [ti3, ti4, ti23, ti46]; omega) | (simp [ti3, ti4, ti23, ti46]; omega) | (simp_all; done) | (simp [SV.cellsL, SV.cells]; done) | (simp [SV.cellsL, SV.cells]; omega)) ?_
  refine sc (rcheck_ok n c lot) rfl rfl (by kernel_rfl) rfl (by kernel_rfl) (.cons (by first | exact argw_same | exact argw_nil | exact argw_tt | exact argw_ff | exact argw_eq rfl) (.cons (by first | exact argw_same | exact argw_nil | exact argw_tt | exact argw_ff | exact argw_eq rfl) .nil)) ?_
  refine st (m := false) tabok rfl rfl rfl (by (repeat' apply And.intro); all_goals first | exact True.intro | rfl | omega | (simp only [inr]; omega) | (simp only [IntKind.bits]; omega) | exact fun h => h | (intro hq; rw [hq]; rfl) | (simp only [Int.toNat_natCast, dflt_i, dflt_b, dflt_l, dflt_p, Int.toNat_zero, gt_iff_lt, ge_iff_le]; omega) | (simp only [ti3, ti4, ti23, ti46]; omega) | (simp [ti3, ti4, ti23, ti46]; omega) | (simp_all; done) | (simp [SV.cellsL, SV.cells]; done) | (simp [SV.cellsL, SV.cells]; omega)) ?_
  refine ops_nil ?_
  refine aw_if rfl (fun c1 => ?_) (fun c1 => ?_)
  · try simp only [Bool.or_eq_true, Bool.and_eq_true, Bool.not_eq_true', Bool.not_eq_false', Bool.or_eq_false_iff, Bool.and_eq_false_imp, decide_eq_true_eq, decide_eq_false_iff_not, Bool.not_true, Bool.not_false, beq_iff_eq, Bool.not_eq_true, Bool.not_eq_false, Bool.true_eq_false, Bool.false_eq_true, not_or, Decidable.not_not, ne_eq] at c1
    try simp only [Int.toNat_natCast, dflt_i, dflt_b, dflt_l, dflt_p, Int.toNat_zero, gt_iff_lt, ge_iff_le] at c1
    refine aw_seq ?_
    refine aw_reg _ (by kernel_rfl) rfl ?_
    iterate 3 refine st (m := false) tabok rfl rfl rfl (by (repeat' apply And.intro); all_goals first | exact True.intro | rfl | omega | (simp only [inr]; omega) | (simp only [IntKind.bits]; omega) | exact fun h => h | (intro hq; rw [hq]; rfl) | (simp only [Int.toNat_natCast, dflt_i, dflt_b, dflt_l, dflt_p, Int.toNat_zero, gt_iff_lt, ge_iff_le]; omega) | (simp only [ti3, ti4, ti23, ti46]; omega) | (simp [ti3, ti4, ti23, ti46]; omega) | (simp_all; done) | (simp [SV.cellsL, SV.cells]; done) | (simp [SV.cellsL, SV.cells]; omega)) ?_
    refine ops_nil ?_
    refine aw_ret ?_
    -- leaf ret.1t
    refine ret_c ?_
    have e1 : drawD d n c lot = 0 := by unfold drawD; rw [if_neg (by omega)]
    have e2 : drawL d n c lot = [] := by unfold drawL; rw [if_neg (by omega)]
    have e3 : checkS n c lot = 3 := by unfold checkS at c1 ⊢; split at c1 <;> simp_all
    exact fs_tup (.cons (fs_int e1.symm) (.cons (fs_nil e2) (.cons (fs_int e3.symm) .nil)))
  · try simp only [Bool.or_eq_true, Bool.and_eq_true, Bool.not_eq_true', Bool.not_eq_false', Bool.or_eq_false_iff, Bool.and_eq_false_imp, decide_eq_true_eq, decide_eq_false_iff_not, Bool.not_true, Bool.not_false, beq_iff_eq, Bool.not_eq_true, Bool.not_eq_false, Bool.true_eq_false, Bool.false_eq_true, not_or, Decidable.not_not, ne_eq] at c1
    try simp only [Int.toNat_natCast, dflt_i, dflt_b, dflt_l, dflt_p, Int.toNat_zero, gt_iff_lt, ge_iff_le] at c1
    refine aw_skip ?_
    refine aw_seq ?_
    refine aw_reg _ (by kernel_rfl) rfl ?_
    iterate 4 refine st (m := false) tabok rfl rfl rfl (by (repeat' apply And.intro); all_goals first | exact True.intro | rfl | omega | (simp only [inr]; omega) | (simp only [IntKind.bits]; omega) | exact fun h => h | (intro hq; rw [hq]; rfl) | (simp only [Int.toNat_natCast, dflt_i, dflt_b, dflt_l, dflt_p, Int.toNat_zero, gt_iff_lt, ge_iff_le]; omega) | (simp only [ti3, ti4, ti23, ti46]; omega) | (simp [ti3, ti4, ti23, ti46]; omega) | (simp_all; done) | (simp [SV.cellsL, SV.cells]; done) | (simp [SV.cellsL, SV.cells]; omega)) ?_
    refine sc (refsample_ok d lot n) rfl rfl (by kernel_rfl) rfl (by kernel_rfl) (.cons (by first | exact argw_same | exact argw_nil | exact argw_tt | exact argw_ff | exact argw_eq rfl) (.cons (by first | exact argw_same | exact argw_nil | exact argw_tt | exact argw_ff | exact argw_eq rfl) (.cons (by first | exact argw_same | exact argw_nil | exact argw_tt | exact argw_ff | exact argw_eq rfl) .nil))) ?_
    iterate 5 refine st (m := false) tabok rfl rfl rfl (by (repeat' apply And.intro); all_goals first | exact True.intro | rfl | omega | (simp only [inr]; omega) | (simp only [IntKind.bits]; omega) | exact fun h => h | (intro hq; rw [hq]; rfl) | (simp only [Int.toNat_natCast, dflt_i, dflt_b, dflt_l, dflt_p, Int.toNat_zero, gt_iff_lt, ge_iff_le]; omega) | (simp only [ti3, ti4, ti23, ti46]; omega) | (simp [ti3, ti4, ti23, ti46]; omega) | (simp_all; done) | (simp [SV.cellsL, SV.cells]; done) | (simp [SV.cellsL, SV.cells]; omega)) ?_
    refine ops_nil ?_
    refine aw_seq ?_
    refine aw_reg _ (by kernel_rfl) rfl ?_
    iterate 5 refine st (m := false) tabok rfl rfl rfl (by (repeat' apply And.intro); all_goals first | exact True.intro | rfl | omega | (simp only [inr]; omega) | (simp only [IntKind.bits]; omega) | exact fun h => h | (intro hq; rw [hq]; rfl) | (simp only [Int.toNat_natCast, dflt_i, dflt_b, dflt_l, dflt_p, Int.toNat_zero, gt_iff_lt, ge_iff_le]; omega) | (simp only [ti3, ti4, ti23, ti46]; omega) | (simp [ti3, ti4, ti23, ti46]; omega) | (simp_all; done) | (simp [SV.cellsL, SV.cells]; done) | (simp [SV.cellsL, SV.cells]; omega)) ?_
    refine ops_nil ?_
    refine aw_ret ?_
    -- leaf ret.1f
    refine ret_c ?_
    have hc : checkS n c lot = 0 := by omega
    obtain ⟨k1, k2, k3, k4⟩ := check_zero hc
    have e1 : drawD d n c lot = (shufOf d lot).1 := by unfold drawD; rw [if_pos hc]
    have ek : clN n (cn lot).toNat = n.toNat := by unfold clN; omega
    have e2 : smpL d lot (clN n (cn lot).toNat) = drawL d n c lot := by unfold drawL; rw [if_pos hc, ek]
    exact fs_tup (.cons (fs_int e1.symm) (.cons (fs_row e2) (.cons (fs_int hc.symm) .nil)))
theorem sameI_ok (l : List Int) (hl : l.length ≤ 1000000) : CS Try.prog 25 [.row TI64 l, .row TI64 l] .tt := by
  refine fn_c [4] Try.func25 Try.ntmps25 rfl rfl rfl rfl ?_
  refine aw_seq ?_
  refine aw_reg _ (by kernel_rfl) rfl ?_
  refine st (m := false) tabok rfl rfl rfl (by (repeat' apply And.intro); all_goals first | exact True.intro | rfl | omega | (simp only [inr]; omega) | (simp only [IntKind.bits]; omega) | exact fun h => h | (intro hq; rw [hq]; rfl) | (simp only [Int.toNat_natCast, dflt_i, dflt_b, dflt_l, dflt_p, Int.toNat_zero, gt_iff_lt, ge_iff_le]; omega) | (simp only [ti3, ti4, ti23, ti46]; omega) | (simp [ti3, ti4, ti23, ti46]; omega) | (simp_all; done) | (simp [SV.cellsL, SV.cells]; done) | (simp [SV.cellsL, SV.cells]; omega)) ?_
  refine ops_nil ?_
  refine aw_seq ?_
  refine aw_seq ?_
  refine aw_reg _ (by kernel_rfl) rfl ?_
  iterate 5 refine st (m := false) tabok rfl rfl rfl (by (repeat' apply And.intro); all_goals first | exact True.intro | rfl | omega | (simp only [inr]; omega) | (simp only [IntKind.bits]; omega) | exact fun h => h | (intro hq; rw [hq]; rfl) | (simp only [Int.toNat_natCast, dflt_i, dflt_b, dflt_l, dflt_p, Int.toNat_zero, gt_iff_lt, ge_iff_le]; omega) | (simp only [ti3, ti4, ti23, ti46]; omega) | (simp [ti3, ti4, ti23, ti46]; omega) | (simp_all; done) | (simp [SV.cellsL, SV.cells]; done) | (simp [SV.cellsL, SV.cells]; omega)) ?_
  refine ops_nil ?_
  refine aw_if rfl (fun c1 => ?_) (fun c1 => ?_)
  · try simp only [Bool.or_eq_true, Bool.and_eq_true, Bool.not_eq_true', Bool.not_eq_false', Bool.or_eq_false_iff, Bool.and_eq_false_imp, decide_eq_true_eq, decide_eq_false_iff_not, Bool.not_true, Bool.not_false, beq_iff_eq, Bool.not_eq_true, Bool.not_eq_false, Bool.true_eq_false, Bool.false_eq_true, not_or, Decidable.not_not, ne_eq] at c1
    try simp only [Int.toNat_natCast, dflt_i, dflt_b, dflt_l, dflt_p, Int.toNat_zero, gt_iff_lt, ge_iff_le] at c1
    refine aw_seq ?_
    refine aw_reg _ (by kernel_rfl) rfl ?_
    refine st (m := false) tabok rfl rfl rfl (by (repeat' apply And.intro); all_goals first | exact True.intro | rfl | omega | (simp only [inr]; omega) | (simp only [IntKind.bits]; omega) | exact fun h => h | (intro hq; rw [hq]; rfl) | (simp only [Int.toNat_natCast, dflt_i, dflt_b, dflt_l, dflt_p, Int.toNat_zero, gt_iff_lt, ge_iff_le]; omega) | (simp only [ti3, ti4, ti23, ti46]; omega) | (simp [ti3, ti4, ti23, ti46]; omega) | (simp_all; done) | (simp [SV.cellsL, SV.cells]; done) | (simp [SV.cellsL, SV.cells]; omega)) ?_
    refine ops_nil ?_
    refine aw_ret ?_
    -- leaf ret.1t
    refine ret_c ?_
    exact absurd True.intro c1
  · try simp only [Bool.or_eq_true, Bool.and_eq_true, Bool.not_eq_true', Bool.not_eq_false', Bool.or_eq_false_iff, Bool.and_eq_false_imp, decide_eq_true_eq, decide_eq_false_iff_not, Bool.not_true, Bool.not_false, beq_iff_eq, Bool.not_eq_true, Bool.not_eq_false, Bool.true_eq_false, Bool.false_eq_true, not_or, Decidable.not_not, ne_eq] at c1
    try simp only [Int.toNat_natCast, dflt_i, dflt_b, dflt_l, dflt_p, Int.toNat_zero, gt_iff_lt, ge_iff_le] at c1
    refine aw_skip ?_
    refine aw_seq ?_
    refine aw_seq ?_
    refine aw_reg _ (by kernel_rfl) rfl ?_
    refine st (m := false) tabok rfl rfl rfl (by (repeat' apply And.intro); all_goals first | exact True.intro | rfl | omega | (simp only [inr]; omega) | (simp only [IntKind.bits]; omega) | exact fun h => h | (intro hq; rw [hq]; rfl) | (simp only [Int.toNat_natCast, dflt_i, dflt_b, dflt_l, dflt_p, Int.toNat_zero, gt_iff_lt, ge_iff_le]; omega) | (simp only [ti3, ti4, ti23, ti46]; omega) | (simp [ti3, ti4, ti23, ti46]; omega) | (simp_all; done) | (simp [SV.cellsL, SV.cells]; done) | (simp [SV.cellsL, SV.cells]; omega)) ?_
    refine ops_nil ?_
    refine aw_block ?_
    refine aw_loop (X := (Nat)) (fun (i : Nat) => outT (look [(0, .row TI64 l), (1, .row TI64 l), (5, .int .i64 i)])) (fun (i : Nat) => outS []) (fun (i : Nat) => (i ≤ l.length)) (fun (i : Nat) => l.length - i) (0) ?_ ?_ ?_
    -- leaf L0:entry.1f
    · exact goes_to (tm := _) (st := _) [] rfl rfl True.intro ⟨(by first | exact sk rfl rfl | exact sk (q_int (by omega)) rfl | exact sk (q_bool (by simp)) rfl | exact sk (q_view rfl rfl rfl (by omega)) rfl | exact sk (q_gview rfl (by simp)) rfl | exact sk (q_nil rfl) rfl | exact sk (q_row (by simp)) rfl | exact sk_g rfl rfl rfl rfl | exact sk_v rfl rfl rfl rfl rfl | exact sk_n rfl), (by first | exact sk rfl rfl | exact sk (q_int (by omega)) rfl | exact sk (q_bool (by simp)) rfl | exact sk (q_view rfl rfl rfl (by omega)) rfl | exact sk (q_gview rfl (by simp)) rfl | exact sk (q_nil rfl) rfl | exact sk (q_row (by simp)) rfl | exact sk_g rfl rfl rfl rfl | exact sk_v rfl rfl rfl rfl rfl | exact sk_n rfl), (by first | exact sk rfl rfl | exact sk (q_int (by omega)) rfl | exact sk (q_bool (by simp)) rfl | exact sk (q_view rfl rfl rfl (by omega)) rfl | exact sk (q_gview rfl (by simp)) rfl | exact sk (q_nil rfl) rfl | exact sk (q_row (by simp)) rfl | exact sk_g rfl rfl rfl rfl | exact sk_v rfl rfl rfl rfl rfl | exact sk_n rfl), True.intro⟩
    · first | omega | assumption | simp
    · skip
      rintro i hi
      change awpB _ _ _ _ _ (outT (look [(0, .row TI64 l), (1, .row TI64 l), (5, .int .i64 i)])) (outS [])
      refine aw_seq ?_
      refine aw_seq ?_
      refine aw_reg _ (by kernel_rfl) rfl ?_
      iterate 4 refine st (m := false) tabok rfl rfl rfl (by (repeat' apply And.intro); all_goals first | exact True.intro | rfl | omega | (simp only [inr]; omega) | (simp only [IntKind.bits]; omega) | exact fun h => h | (intro hq; rw [hq]; rfl) | (simp only [Int.toNat_natCast, dflt_i, dflt_b, dflt_l, dflt_p, Int.toNat_zero, gt_iff_lt, ge_iff_le]; omega) | (simp only [ti3, ti4, ti23, ti46]; omega) | (simp [ti3, ti4, ti23, ti46]; omega) | (simp_all; done) | (simp [SV.cellsL, SV.cells]; done) | (simp [SV.cellsL, SV.cells]; omega)) ?_
      refine ops_nil ?_
      refine aw_if rfl (fun c4 => ?_) (fun c4 => ?_)
      · try simp only [Bool.or_eq_true, Bool.and_eq_true, Bool.not_eq_true', Bool.not_eq_false', Bool.or_eq_false_iff, Bool.and_eq_false_imp, decide_eq_true_eq, decide_eq_false_iff_not, Bool.not_true, Bool.not_false, beq_iff_eq, Bool.not_eq_true, Bool.not_eq_false, Bool.true_eq_false, Bool.false_eq_true, not_or, Decidable.not_not, ne_eq] at c4
        try simp only [Int.toNat_natCast, dflt_i, dflt_b, dflt_l, dflt_p, Int.toNat_zero, gt_iff_lt, ge_iff_le] at c4
        refine aw_skip ?_
        refine aw_seq ?_
        refine aw_block ?_
        refine aw_seq ?_
        refine aw_regD true _ (by kernel_rfl) (by kernel_rfl) (by kernel_rfl) rfl ?_
        iterate 9 refine sd (m := false) tabok rfl rfl rfl (by (repeat' apply And.intro); all_goals first | exact True.intro | rfl | omega | (simp only [inr]; omega) | (simp only [IntKind.bits]; omega) | exact fun h => h | (intro hq; rw [hq]; rfl) | (simp only [Int.toNat_natCast, dflt_i, dflt_b, dflt_l, dflt_p, Int.toNat_zero, gt_iff_lt, ge_iff_le]; omega) | (simp only [ti3, ti4, ti23, ti46]; omega) | (simp [ti3, ti4, ti23, ti46]; omega) | (simp_all; done) | (simp [SV.cellsL, SV.cells]; done) | (simp [SV.cellsL, SV.cells]; omega)) ?_
        refine opd_nil ?_
        refine aw_if rfl (fun c6 => ?_) (fun c6 => ?_)
        · try simp only [Bool.or_eq_true, Bool.and_eq_true, Bool.not_eq_true', Bool.not_eq_false', Bool.or_eq_false_iff, Bool.and_eq_false_imp, decide_eq_true_eq, decide_eq_false_iff_not, Bool.not_true, Bool.not_false, beq_iff_eq, Bool.not_eq_true, Bool.not_eq_false, Bool.true_eq_false, Bool.false_eq_true, not_or, Decidable.not_not, ne_eq] at c6
          try simp only [Int.toNat_natCast, dflt_i, dflt_b, dflt_l, dflt_p, Int.toNat_zero, gt_iff_lt, ge_iff_le] at c6
          refine aw_seq ?_
          refine aw_reg _ (by kernel_rfl) rfl ?_
          refine st (m := false) tabok rfl rfl rfl (by (repeat' apply And.intro); all_goals first | exact True.intro | rfl | omega | (simp only [inr]; omega) | (simp only [IntKind.bits]; omega) | exact fun h => h | (intro hq; rw [hq]; rfl) | (simp only [Int.toNat_natCast, dflt_i, dflt_b, dflt_l, dflt_p, Int.toNat_zero, gt_iff_lt, ge_iff_le]; omega) | (simp only [ti3, ti4, ti23, ti46]; omega) | (simp [ti3, ti4, ti23, ti46]; omega) | (simp_all; done) | (simp [SV.cellsL, SV.cells]; done) | (simp [SV.cellsL, SV.cells]; omega)) ?_
          refine ops_nil ?_
          refine aw_ret ?_
          -- leaf ret.4t.6t
          refine ret_c ?_
          exact absurd True.intro c6
        · try simp only [Bool.or_eq_true, Bool.and_eq_true, Bool.not_eq_true', Bool.not_eq_false', Bool.or_eq_false_iff, Bool.and_eq_false_imp, decide_eq_true_eq, decide_eq_false_iff_not, Bool.not_true, Bool.not_false, beq_iff_eq, Bool.not_eq_true, Bool.not_eq_false, Bool.true_eq_false, Bool.false_eq_true, not_or, Decidable.not_not, ne_eq] at c6
          try simp only [Int.toNat_natCast, dflt_i, dflt_b, dflt_l, dflt_p, Int.toNat_zero, gt_iff_lt, ge_iff_le] at c6
          refine aw_skip ?_
          refine aw_reg _ (by kernel_rfl) rfl ?_
          iterate 3 refine st (m := false) tabok rfl rfl rfl (by (repeat' apply And.intro); all_goals first | exact True.intro | rfl | omega | (simp only [inr]; omega) | (simp only [IntKind.bits]; omega) | exact fun h => h | (intro hq; rw [hq]; rfl) | (simp only [Int.toNat_natCast, dflt_i, dflt_b, dflt_l, dflt_p, Int.toNat_zero, gt_iff_lt, ge_iff_le]; omega) | (simp only [ti3, ti4, ti23, ti46]; omega) | (simp [ti3, ti4, ti23, ti46]; omega) | (simp_all; done) | (simp [SV.cellsL, SV.cells]; done) | (simp [SV.cellsL, SV.cells]; omega)) ?_
          refine ops_nil ?_
          -- leaf L0.4t.6f
          refine Exists.intro (i + 1) ⟨?_, ?_, ?_⟩
          · exact goes_to (tm := _) (st := _) [] rfl rfl True.intro ⟨(by first | exact sk rfl rfl | exact sk (q_int (by omega)) rfl | exact sk (q_bool (by simp)) rfl | exact sk (q_view rfl rfl rfl (by omega)) rfl | exact sk (q_gview rfl (by simp)) rfl | exact sk (q_nil rfl) rfl | exact sk (q_row (by simp)) rfl | exact sk_g rfl rfl rfl rfl | exact sk_v rfl rfl rfl rfl rfl | exact sk_n rfl), (by first | exact sk rfl rfl | exact sk (q_int (by omega)) rfl | exact sk (q_bool (by simp)) rfl | exact sk (q_view rfl rfl rfl (by omega)) rfl | exact sk (q_gview rfl (by simp)) rfl | exact sk (q_nil rfl) rfl | exact sk (q_row (by simp)) rfl | exact sk_g rfl rfl rfl rfl | exact sk_v rfl rfl rfl rfl rfl | exact sk_n rfl), (by first | exact sk rfl rfl | exact sk (q_int (by omega)) rfl | exact sk (q_bool (by simp)) rfl | exact sk (q_view rfl rfl rfl (by omega)) rfl | exact sk (q_gview rfl (by simp)) rfl | exact sk (q_nil rfl) rfl | exact sk (q_row (by simp)) rfl | exact sk_g rfl rfl rfl rfl | exact sk_v rfl rfl rfl rfl rfl | exact sk_n rfl), True.intro⟩
          · try dsimp only
            first | omega | assumption | simp
          · (try dsimp only); omega
      · try simp only [Bool.or_eq_true, Bool.and_eq_true, Bool.not_eq_true', Bool.not_eq_false', Bool.or_eq_false_iff, Bool.and_eq_false_imp, decide_eq_true_eq, decide_eq_false_iff_not, Bool.not_true, Bool.not_false, beq_iff_eq, Bool.not_eq_true, Bool.not_eq_false, Bool.true_eq_false, Bool.false_eq_true, not_or, Decidable.not_not, ne_eq] at c4
        try simp only [Int.toNat_natCast, dflt_i, dflt_b, dflt_l, dflt_p, Int.toNat_zero, gt_iff_lt, ge_iff_le] at c4
        refine aw_exit ?_
        refine aw_seq ?_
        refine aw_reg _ (by kernel_rfl) rfl ?_
        refine st (m := false) tabok rfl rfl rfl (by (repeat' apply And.intro); all_goals first | exact True.intro | rfl | omega | (simp only [inr]; omega) | (simp only [IntKind.bits]; omega) | exact fun h => h | (intro hq; rw [hq]; rfl) | (simp only [Int.toNat_natCast, dflt_i, dflt_b, dflt_l, dflt_p, Int.toNat_zero, gt_iff_lt, ge_iff_le]; omega) | (simp only [ti3, ti4, ti23, ti46]; omega) | (simp [ti3, ti4, ti23, ti46]; omega) | (simp_all; done) | (simp [SV.cellsL, SV.cells]; done) | (simp [SV.cellsL, SV.cells]; omega)) ?_
        refine ops_nil ?_
        refine aw_ret ?_
        -- leaf ret.4f
        refine ret_c ?_
        exact fs rfl
theorem drawL_len (d n c lot : Int) : (drawL d n c lot).length ≤ 1000000 := by
  unfold drawL
  split
  · rename_i hc
    obtain ⟨k1, k2, k3, k4⟩ := check_zero hc
    rw [smpL_len (by omega)]
    omega
  · simp
theorem draws_ok (d n c lot : Int) : CS Try.prog 5 [.int .u64 d, planV n c, .int .i64 lot] (.bool true) := by
  refine fn_c [6] Try.func5 Try.ntmps5 rfl rfl rfl rfl ?_
  refine aw_seq ?_
  refine aw_reg _ (by kernel_rfl) rfl ?_
  iterate 2 refine st (m := false) tabok rfl rfl rfl (by (repeat' apply And.intro); all_goals first | exact True.intro | rfl | omega | (simp only [inr]; omega) | (simp only [IntKind.bits]; omega) | exact fun h => h | (intro hq; rw [hq]; rfl) | (simp only [Int.toNat_natCast, dflt_i, dflt_b, dflt_l, dflt_p, Int.toNat_zero, gt_iff_lt, ge_iff_le]; omega) | (simp only [ti3, ti4, ti23, ti46]; omega) | (simp [ti3, ti4, ti23, ti46]; omega) | (simp_all; done) | (simp [SV.cellsL, SV.cells]; done) | (simp [SV.cellsL, SV.cells]; omega)) ?_
  refine ops_nil ?_
  refine aw_seq ?_
  refine aw_reg _ (by kernel_rfl) rfl ?_
  iterate 3 refine st (m := false) tabok rfl rfl rfl (by (repeat' apply And.intro); all_goals first | exact True.intro | rfl | omega | (simp only [inr]; omega) | (simp only [IntKind.bits]; omega) | exact fun h => h | (intro hq; rw [hq]; rfl) | (simp only [Int.toNat_natCast, dflt_i, dflt_b, dflt_l, dflt_p, Int.toNat_zero, gt_iff_lt, ge_iff_le]; omega) | (simp only [ti3, ti4, ti23, ti46]; omega) | (simp [ti3, ti4, ti23, ti46]; omega) | (simp_all; done) | (simp [SV.cellsL, SV.cells]; done) | (simp [SV.cellsL, SV.cells]; omega)) ?_
  refine sc (draw_ok d n c lot) rfl rfl (by kernel_rfl) rfl (by kernel_rfl) (.cons (by first | exact argw_same | exact argw_nil | exact argw_tt | exact argw_ff | exact argw_eq rfl) (.cons (by first | exact argw_same | exact argw_nil | exact argw_tt | exact argw_ff | exact argw_eq rfl) (.cons (by first | exact argw_same | exact argw_nil | exact argw_tt | exact argw_ff | exact argw_eq rfl) .nil))) ?_
  iterate 7 refine st (m := false) tabok rfl rfl rfl (by (repeat' apply And.intro); all_goals first | exact True.intro | rfl | omega | (simp only [inr]; omega) | (simp only [IntKind.bits]; omega) | exact fun h => h | (intro hq; rw [hq]; rfl) | (simp only [Int.toNat_natCast, dflt_i, dflt_b, dflt_l, dflt_p, Int.toNat_zero, gt_iff_lt, ge_iff_le]; omega) | (simp only [ti3, ti4, ti23, ti46]; omega) | (simp [ti3, ti4, ti23, ti46]; omega) | (simp_all; done) | (simp [SV.cellsL, SV.cells]; done) | (simp [SV.cellsL, SV.cells]; omega)) ?_
  refine ops_nil ?_
  refine aw_seq ?_
  refine aw_reg _ (by kernel_rfl) rfl ?_
  iterate 3 refine st (m := false) tabok rfl rfl rfl (by (repeat' apply And.intro); all_goals first | exact True.intro | rfl | omega | (simp only [inr]; omega) | (simp only [IntKind.bits]; omega) | exact fun h => h | (intro hq; rw [hq]; rfl) | (simp only [Int.toNat_natCast, dflt_i, dflt_b, dflt_l, dflt_p, Int.toNat_zero, gt_iff_lt, ge_iff_le]; omega) | (simp only [ti3, ti4, ti23, ti46]; omega) | (simp [ti3, ti4, ti23, ti46]; omega) | (simp_all; done) | (simp [SV.cellsL, SV.cells]; done) | (simp [SV.cellsL, SV.cells]; omega)) ?_
  refine sc (refdraw_ok d n c lot) rfl rfl (by kernel_rfl) rfl (by kernel_rfl) (.cons (by first | exact argw_same | exact argw_nil | exact argw_tt | exact argw_ff | exact argw_eq rfl) (.cons (by first | exact argw_same | exact argw_nil | exact argw_tt | exact argw_ff | exact argw_eq rfl) (.cons (by first | exact argw_same | exact argw_nil | exact argw_tt | exact argw_ff | exact argw_eq rfl) .nil))) ?_
  iterate 7 refine st (m := false) tabok rfl rfl rfl (by (repeat' apply And.intro); all_goals first | exact True.intro | rfl | omega | (simp only [inr]; omega) | (simp only [IntKind.bits]; omega) | exact fun h => h | (intro hq; rw [hq]; rfl) | (simp only [Int.toNat_natCast, dflt_i, dflt_b, dflt_l, dflt_p, Int.toNat_zero, gt_iff_lt, ge_iff_le]; omega) | (simp only [ti3, ti4, ti23, ti46]; omega) | (simp [ti3, ti4, ti23, ti46]; omega) | (simp_all; done) | (simp [SV.cellsL, SV.cells]; done) | (simp [SV.cellsL, SV.cells]; omega)) ?_
  refine ops_nil ?_
  refine aw_seq ?_
  refine aw_reg _ (by kernel_rfl) rfl ?_
  iterate 4 refine st (m := false) tabok rfl rfl rfl (by (repeat' apply And.intro); all_goals first | exact True.intro | rfl | omega | (simp only [inr]; omega) | (simp only [IntKind.bits]; omega) | exact fun h => h | (intro hq; rw [hq]; rfl) | (simp only [Int.toNat_natCast, dflt_i, dflt_b, dflt_l, dflt_p, Int.toNat_zero, gt_iff_lt, ge_iff_le]; omega) | (simp only [ti3, ti4, ti23, ti46]; omega) | (simp [ti3, ti4, ti23, ti46]; omega) | (simp_all; done) | (simp [SV.cellsL, SV.cells]; done) | (simp [SV.cellsL, SV.cells]; omega)) ?_
  iterate 3 refine stg (m := false) tabok rfl rfl rfl rfl rfl (by intro hg; have hg0 := hg; (try simp only [Bool.or_eq_true, Bool.and_eq_true, Bool.not_eq_true', Bool.not_eq_false', Bool.or_eq_false_iff, Bool.and_eq_false_imp, decide_eq_true_eq, decide_eq_false_iff_not, Bool.not_true, Bool.not_false, beq_iff_eq, Bool.not_eq_true, Bool.not_eq_false, Bool.true_eq_false, Bool.false_eq_true, not_or, Decidable.not_not, ne_eq] at hg); (try simp only [Int.toNat_natCast, dflt_i, dflt_b, dflt_l, dflt_p, Int.toNat_zero, gt_iff_lt, ge_iff_le] at hg); (repeat' apply And.intro); all_goals first | exact hg0 | exact True.intro | rfl | omega | (simp only [inr]; omega) | (simp only [IntKind.bits]; omega) | (simp only [Bool.or_eq_true, Bool.and_eq_true, Bool.not_eq_true', Bool.not_eq_false', Bool.or_eq_false_iff, Bool.and_eq_false_imp, decide_eq_true_eq, decide_eq_false_iff_not, Bool.not_true, Bool.not_false, beq_iff_eq, Bool.not_eq_true, Bool.not_eq_false, Bool.true_eq_false, Bool.false_eq_true, not_or, Decidable.not_not, ne_eq]; omega) | (simp only [inr, Int.toNat_natCast, dflt_i, dflt_b, dflt_l, dflt_p, Int.toNat_zero, gt_iff_lt, ge_iff_le]; omega) | (simp only [Int.toNat_natCast, dflt_i, dflt_b, dflt_l, dflt_p, Int.toNat_zero, gt_iff_lt, ge_iff_le]; omega) | (simp only [Bool.or_eq_true, Bool.and_eq_true, Bool.not_eq_true', Bool.not_eq_false', Bool.or_eq_false_iff, Bool.and_eq_false_imp, decide_eq_true_eq, decide_eq_false_iff_not, Bool.not_true, Bool.not_false, beq_iff_eq, Bool.not_eq_true, Bool.not_eq_false, Bool.true_eq_false, Bool.false_eq_true, not_or, Decidable.not_not, ne_eq] at hg0 ⊢; simp_all; done) | (simp_all; done) | (simp_all; omega)) ?_
  iterate 2 refine st (m := false) tabok rfl rfl rfl (by (repeat' apply And.intro); all_goals first | exact True.intro | rfl | omega | (simp only [inr]; omega) | (simp only [IntKind.bits]; omega) | exact fun h => h | (intro hq; rw [hq]; rfl) | (simp only [Int.toNat_natCast, dflt_i, dflt_b, dflt_l, dflt_p, Int.toNat_zero, gt_iff_lt, ge_iff_le]; omega) | (simp only [ti3, ti4, ti23, ti46]; omega) | (simp [ti3, ti4, ti23, ti46]; omega) | (simp_all; done) | (simp [SV.cellsL, SV.cells]; done) | (simp [SV.cellsL, SV.cells]; omega)) ?_
  iterate 2 refine stg (m := false) tabok rfl rfl rfl rfl rfl (by intro hg; have hg0 := hg; (try simp only [Bool.or_eq_true, Bool.and_eq_true, Bool.not_eq_true', Bool.not_eq_false', Bool.or_eq_false_iff, Bool.and_eq_false_imp, decide_eq_true_eq, decide_eq_false_iff_not, Bool.not_true, Bool.not_false, beq_iff_eq, Bool.not_eq_true, Bool.not_eq_false, Bool.true_eq_false, Bool.false_eq_true, not_or, Decidable.not_not, ne_eq] at hg); (try simp only [Int.toNat_natCast, dflt_i, dflt_b, dflt_l, dflt_p, Int.toNat_zero, gt_iff_lt, ge_iff_le] at hg); (repeat' apply And.intro); all_goals first | exact hg0 | exact True.intro | rfl | omega | (simp only [inr]; omega) | (simp only [IntKind.bits]; omega) | (simp only [Bool.or_eq_true, Bool.and_eq_true, Bool.not_eq_true', Bool.not_eq_false', Bool.or_eq_false_iff, Bool.and_eq_false_imp, decide_eq_true_eq, decide_eq_false_iff_not, Bool.not_true, Bool.not_false, beq_iff_eq, Bool.not_eq_true, Bool.not_eq_false, Bool.true_eq_false, Bool.false_eq_true, not_or, Decidable.not_not, ne_eq]; omega) | (simp only [inr, Int.toNat_natCast, dflt_i, dflt_b, dflt_l, dflt_p, Int.toNat_zero, gt_iff_lt, ge_iff_le]; omega) | (simp only [Int.toNat_natCast, dflt_i, dflt_b, dflt_l, dflt_p, Int.toNat_zero, gt_iff_lt, ge_iff_le]; omega) | (simp only [Bool.or_eq_true, Bool.and_eq_true, Bool.not_eq_true', Bool.not_eq_false', Bool.or_eq_false_iff, Bool.and_eq_false_imp, decide_eq_true_eq, decide_eq_false_iff_not, Bool.not_true, Bool.not_false, beq_iff_eq, Bool.not_eq_true, Bool.not_eq_false, Bool.true_eq_false, Bool.false_eq_true, not_or, Decidable.not_not, ne_eq] at hg0 ⊢; simp_all; done) | (simp_all; done) | (simp_all; omega)) ?_
  refine scg (fun hg => sameI_ok _ (drawL_len d n c lot)) rfl rfl rfl rfl (by kernel_rfl) rfl (by kernel_rfl) (fun hg => (.cons (by first | exact argw_same | exact argw_nil | exact argw_tt | exact argw_ff | exact argw_eq rfl) (.cons (by first | exact argw_same | exact argw_nil | exact argw_tt | exact argw_ff | exact argw_eq rfl) .nil))) rfl (by intro hg; have hg0 := hg; (try simp only [Bool.or_eq_true, Bool.and_eq_true, Bool.not_eq_true', Bool.not_eq_false', Bool.or_eq_false_iff, Bool.and_eq_false_imp, decide_eq_true_eq, decide_eq_false_iff_not, Bool.not_true, Bool.not_false, beq_iff_eq, Bool.not_eq_true, Bool.not_eq_false, Bool.true_eq_false, Bool.false_eq_true, not_or, Decidable.not_not, ne_eq] at hg); (try simp only [Int.toNat_natCast, dflt_i, dflt_b, dflt_l, dflt_p, Int.toNat_zero, gt_iff_lt, ge_iff_le] at hg); (repeat' apply And.intro); all_goals first | exact hg0 | exact True.intro | rfl | omega | (simp only [inr]; omega) | (simp only [IntKind.bits]; omega) | (simp only [Bool.or_eq_true, Bool.and_eq_true, Bool.not_eq_true', Bool.not_eq_false', Bool.or_eq_false_iff, Bool.and_eq_false_imp, decide_eq_true_eq, decide_eq_false_iff_not, Bool.not_true, Bool.not_false, beq_iff_eq, Bool.not_eq_true, Bool.not_eq_false, Bool.true_eq_false, Bool.false_eq_true, not_or, Decidable.not_not, ne_eq]; omega) | (simp only [inr, Int.toNat_natCast, dflt_i, dflt_b, dflt_l, dflt_p, Int.toNat_zero, gt_iff_lt, ge_iff_le]; omega) | (simp only [Int.toNat_natCast, dflt_i, dflt_b, dflt_l, dflt_p, Int.toNat_zero, gt_iff_lt, ge_iff_le]; omega) | (simp only [Bool.or_eq_true, Bool.and_eq_true, Bool.not_eq_true', Bool.not_eq_false', Bool.or_eq_false_iff, Bool.and_eq_false_imp, decide_eq_true_eq, decide_eq_false_iff_not, Bool.not_true, Bool.not_false, beq_iff_eq, Bool.not_eq_true, Bool.not_eq_false, Bool.true_eq_false, Bool.false_eq_true, not_or, Decidable.not_not, ne_eq] at hg0 ⊢; simp_all; done) | (simp_all; done) | (simp_all; omega)) ?_
  iterate 2 refine st (m := false) tabok rfl rfl rfl (by (repeat' apply And.intro); all_goals first | exact True.intro | rfl | omega | (simp only [inr]; omega) | (simp only [IntKind.bits]; omega) | exact fun h => h | (intro hq; rw [hq]; rfl) | (simp only [Int.toNat_natCast, dflt_i, dflt_b, dflt_l, dflt_p, Int.toNat_zero, gt_iff_lt, ge_iff_le]; omega) | (simp only [ti3, ti4, ti23, ti46]; omega) | (simp [ti3, ti4, ti23, ti46]; omega) | (simp_all; done) | (simp [SV.cellsL, SV.cells]; done) | (simp [SV.cellsL, SV.cells]; omega)) ?_
  refine scg (fun hg => alive_ok) rfl rfl rfl rfl (by kernel_rfl) rfl (by kernel_rfl) (fun hg => .nil) rfl (by intro hg; have hg0 := hg; (try simp only [Bool.or_eq_true, Bool.and_eq_true, Bool.not_eq_true', Bool.not_eq_false', Bool.or_eq_false_iff, Bool.and_eq_false_imp, decide_eq_true_eq, decide_eq_false_iff_not, Bool.not_true, Bool.not_false, beq_iff_eq, Bool.not_eq_true, Bool.not_eq_false, Bool.true_eq_false, Bool.false_eq_true, not_or, Decidable.not_not, ne_eq] at hg); (try simp only [Int.toNat_natCast, dflt_i, dflt_b, dflt_l, dflt_p, Int.toNat_zero, gt_iff_lt, ge_iff_le] at hg); (repeat' apply And.intro); all_goals first | exact hg0 | exact True.intro | rfl | omega | (simp only [inr]; omega) | (simp only [IntKind.bits]; omega) | (simp only [Bool.or_eq_true, Bool.and_eq_true, Bool.not_eq_true', Bool.not_eq_false', Bool.or_eq_false_iff, Bool.and_eq_false_imp, decide_eq_true_eq, decide_eq_false_iff_not, Bool.not_true, Bool.not_false, beq_iff_eq, Bool.not_eq_true, Bool.not_eq_false, Bool.true_eq_false, Bool.false_eq_true, not_or, Decidable.not_not, ne_eq]; omega) | (simp only [inr, Int.toNat_natCast, dflt_i, dflt_b, dflt_l, dflt_p, Int.toNat_zero, gt_iff_lt, ge_iff_le]; omega) | (simp only [Int.toNat_natCast, dflt_i, dflt_b, dflt_l, dflt_p, Int.toNat_zero, gt_iff_lt, ge_iff_le]; omega) | (simp only [Bool.or_eq_true, Bool.and_eq_true, Bool.not_eq_true', Bool.not_eq_false', Bool.or_eq_false_iff, Bool.and_eq_false_imp, decide_eq_true_eq, decide_eq_false_iff_not, Bool.not_true, Bool.not_false, beq_iff_eq, Bool.not_eq_true, Bool.not_eq_false, Bool.true_eq_false, Bool.false_eq_true, not_or, Decidable.not_not, ne_eq] at hg0 ⊢; simp_all; done) | (simp_all; done) | (simp_all; omega)) ?_
  iterate 2 refine st (m := false) tabok rfl rfl rfl (by (repeat' apply And.intro); all_goals first | exact True.intro | rfl | omega | (simp only [inr]; omega) | (simp only [IntKind.bits]; omega) | exact fun h => h | (intro hq; rw [hq]; rfl) | (simp only [Int.toNat_natCast, dflt_i, dflt_b, dflt_l, dflt_p, Int.toNat_zero, gt_iff_lt, ge_iff_le]; omega) | (simp only [ti3, ti4, ti23, ti46]; omega) | (simp [ti3, ti4, ti23, ti46]; omega) | (simp_all; done) | (simp [SV.cellsL, SV.cells]; done) | (simp [SV.cellsL, SV.cells]; omega)) ?_
  refine ops_nil ?_
  refine aw_ret ?_
  -- leaf ret
  refine ret_c ?_
  refine fs_bool ?_
  simp
theorem draws_law (d : Int) (p : Int × Int) (lot : Int) (_ : WfD (.i .u64) d) (_ : WfD TPlan p) (_ : WfD TI64 lot) : CS Try.prog 5 [.int .u64 d, .agg [.int .i64 p.1, .int .i64 p.2], .int .i64 lot] (.bool true) := draws_ok d p.1 p.2 lot
end Go.Sim
end
