/- A part of the proof: the walks of this law's functions, and plain laws. -/
import Derived.Test.YtihdifmachfdbaaQ3
section
namespace Go.Sim
open Go Go.Proofs
set_option maxRecDepth 10000
set_option autoImplicit false
set_option linter.unusedSimpArgs false
set_option linter.unusedVariables false
abbrev exN (n lot d f : Int) : Nat := nmN (setsN n lot d f) (chI lot n)
abbrev exD (n lot d f : Int) : Nat := nmD (setsN n lot d f) (chI lot n)
theorem exactly0 (n c lot d f : Int) (h : exE n c lot d f = 0) : CS Try.prog 18 [planV n c, .int .i64 lot, .int .i64 d, .int .i64 f] (.tup [ratZ (exN n lot d f) (exD n lot d f), .int .i64 0]) := by
  have := exactly_ok n c lot d f
  rw [h] at this
  unfold exA exB at this
  rw [if_pos h, if_pos h] at this
  exact this
theorem setsN_nat {n L d f : Nat} (h1 : d ≤ L) (h2 : f ≤ n) : setsN n L d f = ch d f * ch (L - d) (n - f) := by
  unfold setsN
  rw [chI_nat, chI_sub h1 h2]
theorem ex_md {n lot d f : Int} (h1 : 0 ≤ d ∧ d ≤ lot) (h2 : lot ≤ 200) : Md (exN n lot d f) ∧ (0 < chI lot n → Md (exD n lot d f)) := by
  have a : Md (setsN n lot d f) := Nat.le_trans (setsN_md (by omega) (by omega)) (by decide)
  exact ⟨a.nmN _, fun h => (chI_md (by omega)).nmD _ h⟩
theorem chI_pos {n k : Int} (h : 0 ≤ k ∧ k ≤ n) : 0 < chI n k := by
  unfold chI
  rw [if_neg (by omega)]
  exact ch_pos (by omega)
abbrev lotV (s d f : Int) : SV := .agg [.int .i64 s, .int .i64 d, .int .i64 f]
theorem exE_zero {n c L d f : Int} (h : checkS n c L = 0) (h1 : 0 ≤ d) (h2 : d ≤ L) (h3 : 0 ≤ f) (h4 : f ≤ n) : exE n c L d f = 0 := by
  have e : validE n c L d = 0 := by unfold validE; rw [if_neg (by omega)]
  unfold exE
  rw [if_neg (by omega)]
theorem cmp_self (a : Nat) : cmpI a a = 0 := by unfold cmpI; rw [if_neg (by omega), if_pos rfl]
theorem ex_exch {n L d f : Int} (h1 : 0 ≤ n ∧ n ≤ L) (h2 : 0 ≤ d ∧ d ≤ L) (h3 : 0 ≤ f ∧ f ≤ n ∧ f ≤ d) : exN n L d f = exN d L n f ∧ exD n L d f = exD d L n f := by
  obtain ⟨n, rfl⟩ := Int.eq_ofNat_of_zero_le h1.1
  obtain ⟨d, rfl⟩ := Int.eq_ofNat_of_zero_le h2.1
  obtain ⟨f, rfl⟩ := Int.eq_ofNat_of_zero_le h3.1
  obtain ⟨L, rfl⟩ := Int.eq_ofNat_of_zero_le (show 0 ≤ L by omega)
  refine nm_eq (chI_pos (by omega)) (chI_pos (by omega)) ?_
  rw [setsN_nat (by omega) (by omega), setsN_nat (by omega) (by omega), chI_nat, chI_nat]
  exact exch (by omega) (by omega) (by omega) (by omega)
theorem exchange_ok (n c L d f : Int) : CS Try.prog 8 [planV n c, lotV L d f] (.bool true) := by
  refine fn_c [4] Try.func8 Try.ntmps8 rfl rfl rfl rfl ?_
  refine aw_seq ?_
  refine aw_reg _ (by kernel_rfl) rfl ?_
  iterate 3 refine zst tabok rfl rfl rfl ?_
  refine ops_nil ?_
  refine aw_seq ?_
  refine aw_reg _ (by kernel_rfl) rfl ?_
  iterate 5 refine stq (m := false) tabok rfl rfl (by (repeat' apply And.intro) <;> first | exact True.intro | rfl | omega | (simp only [inr, IntKind.bits, Int.toNat_natCast, dflt_i, dflt_b, dflt_l, dflt_p, Int.toNat_zero, gt_iff_lt, ge_iff_le, tnat_add, tnat_sub1, tnat_div32, tnat_mod32, ti3, ti4, ti23, ti31, ti34, ti36, ti38, ti44, ti53, ti80]; omega) | exact fun h => h | (intro hq; rw [hq]; rfl) | (simp [SV.cellsL, SV.cells] <;> omega) | (simp_all; done)) ?_
  refine ops_nil ?_
  refine aw_seq ?_
  refine aw_seq ?_
  refine aw_reg _ (by kernel_rfl) rfl ?_
  iterate 4 refine stq (m := false) tabok rfl rfl (by (repeat' apply And.intro) <;> first | exact True.intro | rfl | omega | (simp only [inr, IntKind.bits, Int.toNat_natCast, dflt_i, dflt_b, dflt_l, dflt_p, Int.toNat_zero, gt_iff_lt, ge_iff_le, tnat_add, tnat_sub1, tnat_div32, tnat_mod32, ti3, ti4, ti23, ti31, ti34, ti36, ti38, ti44, ti53, ti80]; omega) | exact fun h => h | (intro hq; rw [hq]; rfl) | (simp [SV.cellsL, SV.cells] <;> omega) | (simp_all; done)) ?_
  iterate 3 refine stg (m := false) tabok rfl rfl rfl rfl rfl (by intro hg; have hg0 := hg; (try simp only [Bool.or_eq_true, Bool.and_eq_true, Bool.not_eq_true', Bool.not_eq_false', Bool.or_eq_false_iff, Bool.and_eq_false_imp, decide_eq_true_eq, decide_eq_false_iff_not, Bool.not_true, Bool.not_false, beq_iff_eq, Bool.not_eq_true, Bool.not_eq_false, Bool.true_eq_false, Bool.false_eq_true, not_or, Decidable.not_not, ne_eq] at hg); (try simp only [Int.toNat_natCast, dflt_i, dflt_b, dflt_l, dflt_p, Int.toNat_zero, gt_iff_lt, ge_iff_le] at hg); (repeat' apply And.intro); all_goals first | exact hg0 | exact True.intro | rfl | omega | (simp only [inr]; omega) | (simp only [IntKind.bits]; omega) | (simp only [Bool.or_eq_true, Bool.and_eq_true, Bool.not_eq_true', Bool.not_eq_false', Bool.or_eq_false_iff, Bool.and_eq_false_imp, decide_eq_true_eq, decide_eq_false_iff_not, Bool.not_true, Bool.not_false, beq_iff_eq, Bool.not_eq_true, Bool.not_eq_false, Bool.true_eq_false, Bool.false_eq_true, not_or, Decidable.not_not, ne_eq]; omega) | (simp only [inr, Int.toNat_natCast, dflt_i, dflt_b, dflt_l, dflt_p, Int.toNat_zero, gt_iff_lt, ge_iff_le]; omega) | (simp only [Int.toNat_natCast, dflt_i, dflt_b, dflt_l, dflt_p, Int.toNat_zero, gt_iff_lt, ge_iff_le]; omega) | (simp only [Bool.or_eq_true, Bool.and_eq_true, Bool.not_eq_true', Bool.not_eq_false', Bool.or_eq_false_iff, Bool.and_eq_false_imp, decide_eq_true_eq, decide_eq_false_iff_not, Bool.not_true, Bool.not_false, beq_iff_eq, Bool.not_eq_true, Bool.not_eq_false, Bool.true_eq_false, Bool.false_eq_true, not_or, Decidable.not_not, ne_eq] at hg0 ⊢; simp_all; done) | (simp_all; done) | (simp_all; omega)) ?_
  refine scg (fun hg => rcheck_ok n c L) rfl rfl rfl rfl (by kernel_rfl) rfl (by kernel_rfl) (fun hg => (.cons (by first | exact argw_same | exact argw_nil | exact argw_tt | exact argw_ff | exact argw_eq rfl) (.cons (by first | exact argw_same | exact argw_nil | exact argw_tt | exact argw_ff | exact argw_eq rfl) .nil))) rfl (by intro hg; have hg0 := hg; (try simp only [Bool.or_eq_true, Bool.and_eq_true, Bool.not_eq_true', Bool.not_eq_false', Bool.or_eq_false_iff, Bool.and_eq_false_imp, decide_eq_true_eq, decide_eq_false_iff_not, Bool.not_true, Bool.not_false, beq_iff_eq, Bool.not_eq_true, Bool.not_eq_false, Bool.true_eq_false, Bool.false_eq_true, not_or, Decidable.not_not, ne_eq] at hg); (try simp only [Int.toNat_natCast, dflt_i, dflt_b, dflt_l, dflt_p, Int.toNat_zero, gt_iff_lt, ge_iff_le] at hg); (repeat' apply And.intro); all_goals first | exact hg0 | exact True.intro | rfl | omega | (simp only [inr]; omega) | (simp only [IntKind.bits]; omega) | (simp only [Bool.or_eq_true, Bool.and_eq_true, Bool.not_eq_true', Bool.not_eq_false', Bool.or_eq_false_iff, Bool.and_eq_false_imp, decide_eq_true_eq, decide_eq_false_iff_not, Bool.not_true, Bool.not_false, beq_iff_eq, Bool.not_eq_true, Bool.not_eq_false, Bool.true_eq_false, Bool.false_eq_true, not_or, Decidable.not_not, ne_eq]; omega) | (simp only [inr, Int.toNat_natCast, dflt_i, dflt_b, dflt_l, dflt_p, Int.toNat_zero, gt_iff_lt, ge_iff_le]; omega) | (simp only [Int.toNat_natCast, dflt_i, dflt_b, dflt_l, dflt_p, Int.toNat_zero, gt_iff_lt, ge_iff_le]; omega) | (simp only [Bool.or_eq_true, Bool.and_eq_true, Bool.not_eq_true', Bool.not_eq_false', Bool.or_eq_false_iff, Bool.and_eq_false_imp, decide_eq_true_eq, decide_eq_false_iff_not, Bool.not_true, Bool.not_false, beq_iff_eq, Bool.not_eq_true, Bool.not_eq_false, Bool.true_eq_false, Bool.false_eq_true, not_or, Decidable.not_not, ne_eq] at hg0 ⊢; simp_all; done) | (simp_all; done) | (simp_all; omega)) ?_
  refine stg (m := false) tabok rfl rfl rfl rfl rfl (by intro hg; have hg0 := hg; (try simp only [Bool.or_eq_true, Bool.and_eq_true, Bool.not_eq_true', Bool.not_eq_false', Bool.or_eq_false_iff, Bool.and_eq_false_imp, decide_eq_true_eq, decide_eq_false_iff_not, Bool.not_true, Bool.not_false, beq_iff_eq, Bool.not_eq_true, Bool.not_eq_false, Bool.true_eq_false, Bool.false_eq_true, not_or, Decidable.not_not, ne_eq] at hg); (try simp only [Int.toNat_natCast, dflt_i, dflt_b, dflt_l, dflt_p, Int.toNat_zero, gt_iff_lt, ge_iff_le] at hg); (repeat' apply And.intro); all_goals first | exact hg0 | exact True.intro | rfl | omega | (simp only [inr]; omega) | (simp only [IntKind.bits]; omega) | (simp only [Bool.or_eq_true, Bool.and_eq_true, Bool.not_eq_true', Bool.not_eq_false', Bool.or_eq_false_iff, Bool.and_eq_false_imp, decide_eq_true_eq, decide_eq_false_iff_not, Bool.not_true, Bool.not_false, beq_iff_eq, Bool.not_eq_true, Bool.not_eq_false, Bool.true_eq_false, Bool.false_eq_true, not_or, Decidable.not_not, ne_eq]; omega) | (simp only [inr, Int.toNat_natCast, dflt_i, dflt_b, dflt_l, dflt_p, Int.toNat_zero, gt_iff_lt, ge_iff_le]; omega) | (simp only [Int.toNat_natCast, dflt_i, dflt_b, dflt_l, dflt_p, Int.toNat_zero, gt_iff_lt, ge_iff_le]; omega) | (simp only [Bool.or_eq_true, Bool.and_eq_true, Bool.not_eq_true', Bool.not_eq_false', Bool.or_eq_false_iff, Bool.and_eq_false_imp, decide_eq_true_eq, decide_eq_false_iff_not, Bool.not_true, Bool.not_false, beq_iff_eq, Bool.not_eq_true, Bool.not_eq_false, Bool.true_eq_false, Bool.false_eq_true, not_or, Decidable.not_not, ne_eq] at hg0 ⊢; simp_all; done) | (simp_all; done) | (simp_all; omega)) ?_
  iterate 2 refine stq (m := false) tabok rfl rfl (by (repeat' apply And.intro) <;> first | exact True.intro | rfl | omega | (simp only [inr, IntKind.bits, Int.toNat_natCast, dflt_i, dflt_b, dflt_l, dflt_p, Int.toNat_zero, gt_iff_lt, ge_iff_le, tnat_add, tnat_sub1, tnat_div32, tnat_mod32, ti3, ti4, ti23, ti31, ti34, ti36, ti38, ti44, ti53, ti80]; omega) | exact fun h => h | (intro hq; rw [hq]; rfl) | (simp [SV.cellsL, SV.cells] <;> omega) | (simp_all; done)) ?_
  iterate 3 refine stg (m := false) tabok rfl rfl rfl rfl rfl (by intro hg; have hg0 := hg; (try simp only [Bool.or_eq_true, Bool.and_eq_true, Bool.not_eq_true', Bool.not_eq_false', Bool.or_eq_false_iff, Bool.and_eq_false_imp, decide_eq_true_eq, decide_eq_false_iff_not, Bool.not_true, Bool.not_false, beq_iff_eq, Bool.not_eq_true, Bool.not_eq_false, Bool.true_eq_false, Bool.false_eq_true, not_or, Decidable.not_not, ne_eq] at hg); (try simp only [Int.toNat_natCast, dflt_i, dflt_b, dflt_l, dflt_p, Int.toNat_zero, gt_iff_lt, ge_iff_le] at hg); (repeat' apply And.intro); all_goals first | exact hg0 | exact True.intro | rfl | omega | (simp only [inr]; omega) | (simp only [IntKind.bits]; omega) | (simp only [Bool.or_eq_true, Bool.and_eq_true, Bool.not_eq_true', Bool.not_eq_false', Bool.or_eq_false_iff, Bool.and_eq_false_imp, decide_eq_true_eq, decide_eq_false_iff_not, Bool.not_true, Bool.not_false, beq_iff_eq, Bool.not_eq_true, Bool.not_eq_false, Bool.true_eq_false, Bool.false_eq_true, not_or, Decidable.not_not, ne_eq]; omega) | (simp only [inr, Int.toNat_natCast, dflt_i, dflt_b, dflt_l, dflt_p, Int.toNat_zero, gt_iff_lt, ge_iff_le]; omega) | (simp only [Int.toNat_natCast, dflt_i, dflt_b, dflt_l, dflt_p, Int.toNat_zero, gt_iff_lt, ge_iff_le]; omega) | (simp only [Bool.or_eq_true, Bool.and_eq_true, Bool.not_eq_true', Bool.not_eq_false', Bool.or_eq_false_iff, Bool.and_eq_false_imp, decide_eq_true_eq, decide_eq_false_iff_not, Bool.not_true, Bool.not_false, beq_iff_eq, Bool.not_eq_true, Bool.not_eq_false, Bool.true_eq_false, Bool.false_eq_true, not_or, Decidable.not_not, ne_eq] at hg0 ⊢; simp_all; done) | (simp_all; done) | (simp_all; omega)) ?_
  refine scg (fun hg => rcheck_ok d 0 L) rfl rfl rfl rfl (by kernel_rfl) rfl (by kernel_rfl) (fun hg => (.cons (by first | exact argw_same | exact argw_nil | exact argw_tt | exact argw_ff | exact argw_eq rfl) (.cons (by first | exact argw_same | exact argw_nil | exact argw_tt | exact argw_ff | exact argw_eq rfl) .nil))) rfl (by intro hg; have hg0 := hg; (try simp only [Bool.or_eq_true, Bool.and_eq_true, Bool.not_eq_true', Bool.not_eq_false', Bool.or_eq_false_iff, Bool.and_eq_false_imp, decide_eq_true_eq, decide_eq_false_iff_not, Bool.not_true, Bool.not_false, beq_iff_eq, Bool.not_eq_true, Bool.not_eq_false, Bool.true_eq_false, Bool.false_eq_true, not_or, Decidable.not_not, ne_eq] at hg); (try simp only [Int.toNat_natCast, dflt_i, dflt_b, dflt_l, dflt_p, Int.toNat_zero, gt_iff_lt, ge_iff_le] at hg); (repeat' apply And.intro); all_goals first | exact hg0 | exact True.intro | rfl | omega | (simp only [inr]; omega) | (simp only [IntKind.bits]; omega) | (simp only [Bool.or_eq_true, Bool.and_eq_true, Bool.not_eq_true', Bool.not_eq_false', Bool.or_eq_false_iff, Bool.and_eq_false_imp, decide_eq_true_eq, decide_eq_false_iff_not, Bool.not_true, Bool.not_false, beq_iff_eq, Bool.not_eq_true, Bool.not_eq_false, Bool.true_eq_false, Bool.false_eq_true, not_or, Decidable.not_not, ne_eq]; omega) | (simp only [inr, Int.toNat_natCast, dflt_i, dflt_b, dflt_l, dflt_p, Int.toNat_zero, gt_iff_lt, ge_iff_le]; omega) | (simp only [Int.toNat_natCast, dflt_i, dflt_b, dflt_l, dflt_p, Int.toNat_zero, gt_iff_lt, ge_iff_le]; omega) | (simp only [Bool.or_eq_true, Bool.and_eq_true, Bool.not_eq_true', Bool.not_eq_false', Bool.or_eq_false_iff, Bool.and_eq_false_imp, decide_eq_true_eq, decide_eq_false_iff_not, Bool.not_true, Bool.not_false, beq_iff_eq, Bool.not_eq_true, Bool.not_eq_false, Bool.true_eq_false, Bool.false_eq_true, not_or, Decidable.not_not, ne_eq] at hg0 ⊢; simp_all; done) | (simp_all; done) | (simp_all; omega)) ?_
  refine stg (m := false) tabok rfl rfl rfl rfl rfl (by intro hg; have hg0 := hg; (try simp only [Bool.or_eq_true, Bool.and_eq_true, Bool.not_eq_true', Bool.not_eq_false', Bool.or_eq_false_iff, Bool.and_eq_false_imp, decide_eq_true_eq, decide_eq_false_iff_not, Bool.not_true, Bool.not_false, beq_iff_eq, Bool.not_eq_true, Bool.not_eq_false, Bool.true_eq_false, Bool.false_eq_true, not_or, Decidable.not_not, ne_eq] at hg); (try simp only [Int.toNat_natCast, dflt_i, dflt_b, dflt_l, dflt_p, Int.toNat_zero, gt_iff_lt, ge_iff_le] at hg); (repeat' apply And.intro); all_goals first | exact hg0 | exact True.intro | rfl | omega | (simp only [inr]; omega) | (simp only [IntKind.bits]; omega) | (simp only [Bool.or_eq_true, Bool.and_eq_true, Bool.not_eq_true', Bool.not_eq_false', Bool.or_eq_false_iff, Bool.and_eq_false_imp, decide_eq_true_eq, decide_eq_false_iff_not, Bool.not_true, Bool.not_false, beq_iff_eq, Bool.not_eq_true, Bool.not_eq_false, Bool.true_eq_false, Bool.false_eq_true, not_or, Decidable.not_not, ne_eq]; omega) | (simp only [inr, Int.toNat_natCast, dflt_i, dflt_b, dflt_l, dflt_p, Int.toNat_zero, gt_iff_lt, ge_iff_le]; omega) | (simp only [Int.toNat_natCast, dflt_i, dflt_b, dflt_l, dflt_p, Int.toNat_zero, gt_iff_lt, ge_iff_le]; omega) | (simp only [Bool.or_eq_true, Bool.and_eq_true, Bool.not_eq_true', Bool.not_eq_false', Bool.or_eq_false_iff, Bool.and_eq_false_imp, decide_eq_true_eq, decide_eq_false_iff_not, Bool.not_true, Bool.not_false, beq_iff_eq, Bool.not_eq_true, Bool.not_eq_false, Bool.true_eq_false, Bool.false_eq_true, not_or, Decidable.not_not, ne_eq] at hg0 ⊢; simp_all; done) | (simp_all; done) | (simp_all; omega)) ?_
  iterate 2 refine stq (m := false) tabok rfl rfl (by (repeat' apply And.intro) <;> first | exact True.intro | rfl | omega | (simp only [inr, IntKind.bits, Int.toNat_natCast, dflt_i, dflt_b, dflt_l, dflt_p, Int.toNat_zero, gt_iff_lt, ge_iff_le, tnat_add, tnat_sub1, tnat_div32, tnat_mod32, ti3, ti4, ti23, ti31, ti34, ti36, ti38, ti44, ti53, ti80]; omega) | exact fun h => h | (intro hq; rw [hq]; rfl) | (simp [SV.cellsL, SV.cells] <;> omega) | (simp_all; done)) ?_
  iterate 3 refine stg (m := false) tabok rfl rfl rfl rfl rfl (by intro hg; have hg0 := hg; (try simp only [Bool.or_eq_true, Bool.and_eq_true, Bool.not_eq_true', Bool.not_eq_false', Bool.or_eq_false_iff, Bool.and_eq_false_imp, decide_eq_true_eq, decide_eq_false_iff_not, Bool.not_true, Bool.not_false, beq_iff_eq, Bool.not_eq_true, Bool.not_eq_false, Bool.true_eq_false, Bool.false_eq_true, not_or, Decidable.not_not, ne_eq] at hg); (try simp only [Int.toNat_natCast, dflt_i, dflt_b, dflt_l, dflt_p, Int.toNat_zero, gt_iff_lt, ge_iff_le] at hg); (repeat' apply And.intro); all_goals first | exact hg0 | exact True.intro | rfl | omega | (simp only [inr]; omega) | (simp only [IntKind.bits]; omega) | (simp only [Bool.or_eq_true, Bool.and_eq_true, Bool.not_eq_true', Bool.not_eq_false', Bool.or_eq_false_iff, Bool.and_eq_false_imp, decide_eq_true_eq, decide_eq_false_iff_not, Bool.not_true, Bool.not_false, beq_iff_eq, Bool.not_eq_true, Bool.not_eq_false, Bool.true_eq_false, Bool.false_eq_true, not_or, Decidable.not_not, ne_eq]; omega) | (simp only [inr, Int.toNat_natCast, dflt_i, dflt_b, dflt_l, dflt_p, Int.toNat_zero, gt_iff_lt, ge_iff_le]; omega) | (simp only [Int.toNat_natCast, dflt_i, dflt_b, dflt_l, dflt_p, Int.toNat_zero, gt_iff_lt, ge_iff_le]; omega) | (simp only [Bool.or_eq_true, Bool.and_eq_true, Bool.not_eq_true', Bool.not_eq_false', Bool.or_eq_false_iff, Bool.and_eq_false_imp, decide_eq_true_eq, decide_eq_false_iff_not, Bool.not_true, Bool.not_false, beq_iff_eq, Bool.not_eq_true, Bool.not_eq_false, Bool.true_eq_false, Bool.false_eq_true, not_or, Decidable.not_not, ne_eq] at hg0 ⊢; simp_all; done) | (simp_all; done) | (simp_all; omega)) ?_
  iterate 2 refine stq (m := false) tabok rfl rfl (by (repeat' apply And.intro) <;> first | exact True.intro | rfl | omega | (simp only [inr, IntKind.bits, Int.toNat_natCast, dflt_i, dflt_b, dflt_l, dflt_p, Int.toNat_zero, gt_iff_lt, ge_iff_le, tnat_add, tnat_sub1, tnat_div32, tnat_mod32, ti3, ti4, ti23, ti31, ti34, ti36, ti38, ti44, ti53, ti80]; omega) | exact fun h => h | (intro hq; rw [hq]; rfl) | (simp [SV.cellsL, SV.cells] <;> omega) | (simp_all; done)) ?_
  iterate 5 refine stg (m := false) tabok rfl rfl rfl rfl rfl (by intro hg; have hg0 := hg; (try simp only [Bool.or_eq_true, Bool.and_eq_true, Bool.not_eq_true', Bool.not_eq_false', Bool.or_eq_false_iff, Bool.and_eq_false_imp, decide_eq_true_eq, decide_eq_false_iff_not, Bool.not_true, Bool.not_false, beq_iff_eq, Bool.not_eq_true, Bool.not_eq_false, Bool.true_eq_false, Bool.false_eq_true, not_or, Decidable.not_not, ne_eq] at hg); (try simp only [Int.toNat_natCast, dflt_i, dflt_b, dflt_l, dflt_p, Int.toNat_zero, gt_iff_lt, ge_iff_le] at hg); (repeat' apply And.intro); all_goals first | exact hg0 | exact True.intro | rfl | omega | (simp only [inr]; omega) | (simp only [IntKind.bits]; omega) | (simp only [Bool.or_eq_true, Bool.and_eq_true, Bool.not_eq_true', Bool.not_eq_false', Bool.or_eq_false_iff, Bool.and_eq_false_imp, decide_eq_true_eq, decide_eq_false_iff_not, Bool.not_true, Bool.not_false, beq_iff_eq, Bool.not_eq_true, Bool.not_eq_false, Bool.true_eq_false, Bool.false_eq_true, not_or, Decidable.not_not, ne_eq]; omega) | (simp only [inr, Int.toNat_natCast, dflt_i, dflt_b, dflt_l, dflt_p, Int.toNat_zero, gt_iff_lt, ge_iff_le]; omega) | (simp only [Int.toNat_natCast, dflt_i, dflt_b, dflt_l, dflt_p, Int.toNat_zero, gt_iff_lt, ge_iff_le]; omega) | (simp only [Bool.or_eq_true, Bool.and_eq_true, Bool.not_eq_true', Bool.not_eq_false', Bool.or_eq_false_iff, Bool.and_eq_false_imp, decide_eq_true_eq, decide_eq_false_iff_not, Bool.not_true, Bool.not_false, beq_iff_eq, Bool.not_eq_true, Bool.not_eq_false, Bool.true_eq_false, Bool.false_eq_true, not_or, Decidable.not_not, ne_eq] at hg0 ⊢; simp_all; done) | (simp_all; done) | (simp_all; omega)) ?_
  iterate 2 refine stq (m := false) tabok rfl rfl (by (repeat' apply And.intro) <;> first | exact True.intro | rfl | omega | (simp only [inr, IntKind.bits, Int.toNat_natCast, dflt_i, dflt_b, dflt_l, dflt_p, Int.toNat_zero, gt_iff_lt, ge_iff_le, tnat_add, tnat_sub1, tnat_div32, tnat_mod32, ti3, ti4, ti23, ti31, ti34, ti36, ti38, ti44, ti53, ti80]; omega) | exact fun h => h | (intro hq; rw [hq]; rfl) | (simp [SV.cellsL, SV.cells] <;> omega) | (simp_all; done)) ?_
  iterate 5 refine stg (m := false) tabok rfl rfl rfl rfl rfl (by intro hg; have hg0 := hg; (try simp only [Bool.or_eq_true, Bool.and_eq_true, Bool.not_eq_true', Bool.not_eq_false', Bool.or_eq_false_iff, Bool.and_eq_false_imp, decide_eq_true_eq, decide_eq_false_iff_not, Bool.not_true, Bool.not_false, beq_iff_eq, Bool.not_eq_true, Bool.not_eq_false, Bool.true_eq_false, Bool.false_eq_true, not_or, Decidable.not_not, ne_eq] at hg); (try simp only [Int.toNat_natCast, dflt_i, dflt_b, dflt_l, dflt_p, Int.toNat_zero, gt_iff_lt, ge_iff_le] at hg); (repeat' apply And.intro); all_goals first | exact hg0 | exact True.intro | rfl | omega | (simp only [inr]; omega) | (simp only [IntKind.bits]; omega) | (simp only [Bool.or_eq_true, Bool.and_eq_true, Bool.not_eq_true', Bool.not_eq_false', Bool.or_eq_false_iff, Bool.and_eq_false_imp, decide_eq_true_eq, decide_eq_false_iff_not, Bool.not_true, Bool.not_false, beq_iff_eq, Bool.not_eq_true, Bool.not_eq_false, Bool.true_eq_false, Bool.false_eq_true, not_or, Decidable.not_not, ne_eq]; omega) | (simp only [inr, Int.toNat_natCast, dflt_i, dflt_b, dflt_l, dflt_p, Int.toNat_zero, gt_iff_lt, ge_iff_le]; omega) | (simp only [Int.toNat_natCast, dflt_i, dflt_b, dflt_l, dflt_p, Int.toNat_zero, gt_iff_lt, ge_iff_le]; omega) | (simp only [Bool.or_eq_true, Bool.and_eq_true, Bool.not_eq_true', Bool.not_eq_false', Bool.or_eq_false_iff, Bool.and_eq_false_imp, decide_eq_true_eq, decide_eq_false_iff_not, Bool.not_true, Bool.not_false, beq_iff_eq, Bool.not_eq_true, Bool.not_eq_false, Bool.true_eq_false, Bool.false_eq_true, not_or, Decidable.not_not, ne_eq] at hg0 ⊢; simp_all; done) | (simp_all; done) | (simp_all; omega)) ?_
  refine stq (m := false) tabok rfl rfl (by (repeat' apply And.intro) <;> first | exact True.intro | rfl | omega | (simp only [inr, IntKind.bits, Int.toNat_natCast, dflt_i, dflt_b, dflt_l, dflt_p, Int.toNat_zero, gt_iff_lt, ge_iff_le, tnat_add, tnat_sub1, tnat_div32, tnat_mod32, ti3, ti4, ti23, ti31, ti34, ti36, ti38, ti44, ti53, ti80]; omega) | exact fun h => h | (intro hq; rw [hq]; rfl) | (simp [SV.cellsL, SV.cells] <;> omega) | (simp_all; done)) ?_
  refine ops_nil ?_
  refine aw_if rfl (fun c2 => ?_) (fun c2 => ?_)
  · try simp only [Bool.or_eq_true, Bool.and_eq_true, Bool.not_eq_true', Bool.not_eq_false', Bool.or_eq_false_iff, Bool.and_eq_false_imp, decide_eq_true_eq, decide_eq_false_iff_not, Bool.not_true, Bool.not_false, beq_iff_eq, Bool.not_eq_true, Bool.not_eq_false, Bool.true_eq_false, Bool.false_eq_true, not_or, Decidable.not_not, ne_eq] at c2
    try simp only [Int.toNat_natCast, dflt_i, dflt_b, dflt_l, dflt_p, Int.toNat_zero, gt_iff_lt, ge_iff_le] at c2
    refine aw_seq ?_
    refine aw_reg _ (by kernel_rfl) rfl ?_
    refine sc (alive_ok) rfl rfl (by kernel_rfl) rfl (by kernel_rfl) .nil ?_
    refine zst tabok rfl rfl rfl ?_
    refine ops_nil ?_
    refine aw_ret ?_
    -- leaf ret.2t
    refine ret_c ?_
    exact fs_eq rfl rfl
  · try simp only [Bool.or_eq_true, Bool.and_eq_true, Bool.not_eq_true', Bool.not_eq_false', Bool.or_eq_false_iff, Bool.and_eq_false_imp, decide_eq_true_eq, decide_eq_false_iff_not, Bool.not_true, Bool.not_false, beq_iff_eq, Bool.not_eq_true, Bool.not_eq_false, Bool.true_eq_false, Bool.false_eq_true, not_or, Decidable.not_not, ne_eq] at c2
    try simp only [Int.toNat_natCast, dflt_i, dflt_b, dflt_l, dflt_p, Int.toNat_zero, gt_iff_lt, ge_iff_le] at c2
    obtain ⟨z1, z1'⟩ := check_zero2 (n := n) (c := c) (lot := L) (by omega)
    obtain ⟨z2, z2'⟩ := check_zero2 (n := d) (c := 0) (lot := L) (by omega)
    have e1 := exE_zero (n := n) (c := c) (L := L) (d := d) (f := f) (by omega) (by omega) (by omega) (by omega) (by omega)
    have e2 := exE_zero (n := d) (c := 0) (L := L) (d := n) (f := f) (by omega) (by omega) (by omega) (by omega) (by omega)
    have p1 : 0 < chI L n := chI_pos (by omega)
    have p2 : 0 < chI L d := chI_pos (by omega)
    have m1 := ex_md (n := n) (lot := L) (d := d) (f := f) (by omega) (by omega)
    have m2 := ex_md (n := d) (lot := L) (d := n) (f := f) (by omega) (by omega)
    refine aw_skip ?_
    refine aw_seq ?_
    refine aw_reg _ (by kernel_rfl) rfl ?_
    iterate 7 refine stq (m := false) tabok rfl rfl (by (repeat' apply And.intro) <;> first | exact True.intro | rfl | omega | (simp only [inr, IntKind.bits, Int.toNat_natCast, dflt_i, dflt_b, dflt_l, dflt_p, Int.toNat_zero, gt_iff_lt, ge_iff_le, tnat_add, tnat_sub1, tnat_div32, tnat_mod32, ti3, ti4, ti23, ti31, ti34, ti36, ti38, ti44, ti53, ti80]; omega) | exact fun h => h | (intro hq; rw [hq]; rfl) | (simp [SV.cellsL, SV.cells] <;> omega) | (simp_all; done)) ?_
    refine sc (exactly0 n c L d f e1) rfl rfl (by kernel_rfl) rfl (by kernel_rfl) (.cons (by first | exact argw_same | exact argw_nil | exact argw_tt | exact argw_ff | exact argw_eq rfl) (.cons (by first | exact argw_same | exact argw_nil | exact argw_tt | exact argw_ff | exact argw_eq rfl) (.cons (by first | exact argw_same | exact argw_nil | exact argw_tt | exact argw_ff | exact argw_eq rfl) (.cons (by first | exact argw_same | exact argw_nil | exact argw_tt | exact argw_ff | exact argw_eq rfl) .nil)))) ?_
    iterate 6 refine stq (m := false) tabok rfl rfl (by (repeat' apply And.intro) <;> first | exact True.intro | rfl | omega | (simp only [inr, IntKind.bits, Int.toNat_natCast, dflt_i, dflt_b, dflt_l, dflt_p, Int.toNat_zero, gt_iff_lt, ge_iff_le, tnat_add, tnat_sub1, tnat_div32, tnat_mod32, ti3, ti4, ti23, ti31, ti34, ti36, ti38, ti44, ti53, ti80]; omega) | exact fun h => h | (intro hq; rw [hq]; rfl) | (simp [SV.cellsL, SV.cells] <;> omega) | (simp_all; done)) ?_
    refine ops_nil ?_
    refine aw_seq ?_
    refine aw_reg _ (by kernel_rfl) rfl ?_
    iterate 7 refine stq (m := false) tabok rfl rfl (by (repeat' apply And.intro) <;> first | exact True.intro | rfl | omega | (simp only [inr, IntKind.bits, Int.toNat_natCast, dflt_i, dflt_b, dflt_l, dflt_p, Int.toNat_zero, gt_iff_lt, ge_iff_le, tnat_add, tnat_sub1, tnat_div32, tnat_mod32, ti3, ti4, ti23, ti31, ti34, ti36, ti38, ti44, ti53, ti80]; omega) | exact fun h => h | (intro hq; rw [hq]; rfl) | (simp [SV.cellsL, SV.cells] <;> omega) | (simp_all; done)) ?_
    refine sc (exactly0 d 0 L n f e2) rfl rfl (by kernel_rfl) rfl (by kernel_rfl) (.cons (by first | exact argw_same | exact argw_nil | exact argw_tt | exact argw_ff | exact argw_eq rfl) (.cons (by first | exact argw_same | exact argw_nil | exact argw_tt | exact argw_ff | exact argw_eq rfl) (.cons (by first | exact argw_same | exact argw_nil | exact argw_tt | exact argw_ff | exact argw_eq rfl) (.cons (by first | exact argw_same | exact argw_nil | exact argw_tt | exact argw_ff | exact argw_eq rfl) .nil)))) ?_
    iterate 6 refine stq (m := false) tabok rfl rfl (by (repeat' apply And.intro) <;> first | exact True.intro | rfl | omega | (simp only [inr, IntKind.bits, Int.toNat_natCast, dflt_i, dflt_b, dflt_l, dflt_p, Int.toNat_zero, gt_iff_lt, ge_iff_le, tnat_add, tnat_sub1, tnat_div32, tnat_mod32, ti3, ti4, ti23, ti31, ti34, ti36, ti38, ti44, ti53, ti80]; omega) | exact fun h => h | (intro hq; rw [hq]; rfl) | (simp [SV.cellsL, SV.cells] <;> omega) | (simp_all; done)) ?_
    refine ops_nil ?_
    refine aw_seq ?_
    refine aw_reg _ (by kernel_rfl) rfl ?_
    iterate 3 refine zst tabok rfl rfl rfl ?_
    iterate 2 refine stg (m := false) tabok rfl rfl rfl rfl rfl (by intro hg; have hg0 := hg; (try simp only [Bool.or_eq_true, Bool.and_eq_true, Bool.not_eq_true', Bool.not_eq_false', Bool.or_eq_false_iff, Bool.and_eq_false_imp, decide_eq_true_eq, decide_eq_false_iff_not, Bool.not_true, Bool.not_false, beq_iff_eq, Bool.not_eq_true, Bool.not_eq_false, Bool.true_eq_false, Bool.false_eq_true, not_or, Decidable.not_not, ne_eq] at hg); (try simp only [Int.toNat_natCast, dflt_i, dflt_b, dflt_l, dflt_p, Int.toNat_zero, gt_iff_lt, ge_iff_le] at hg); (repeat' apply And.intro); all_goals first | exact hg0 | exact True.intro | rfl | omega | (simp only [inr]; omega) | (simp only [IntKind.bits]; omega) | (simp only [Bool.or_eq_true, Bool.and_eq_true, Bool.not_eq_true', Bool.not_eq_false', Bool.or_eq_false_iff, Bool.and_eq_false_imp, decide_eq_true_eq, decide_eq_false_iff_not, Bool.not_true, Bool.not_false, beq_iff_eq, Bool.not_eq_true, Bool.not_eq_false, Bool.true_eq_false, Bool.false_eq_true, not_or, Decidable.not_not, ne_eq]; omega) | (simp only [inr, Int.toNat_natCast, dflt_i, dflt_b, dflt_l, dflt_p, Int.toNat_zero, gt_iff_lt, ge_iff_le]; omega) | (simp only [Int.toNat_natCast, dflt_i, dflt_b, dflt_l, dflt_p, Int.toNat_zero, gt_iff_lt, ge_iff_le]; omega) | (simp only [Bool.or_eq_true, Bool.and_eq_true, Bool.not_eq_true', Bool.not_eq_false', Bool.or_eq_false_iff, Bool.and_eq_false_imp, decide_eq_true_eq, decide_eq_false_iff_not, Bool.not_true, Bool.not_false, beq_iff_eq, Bool.not_eq_true, Bool.not_eq_false, Bool.true_eq_false, Bool.false_eq_true, not_or, Decidable.not_not, ne_eq] at hg0 ⊢; simp_all; done) | (simp_all; done) | (simp_all; omega)) ?_
    iterate 2 refine stq (m := false) tabok rfl rfl (by (repeat' apply And.intro) <;> first | exact True.intro | rfl | omega | (simp only [inr, IntKind.bits, Int.toNat_natCast, dflt_i, dflt_b, dflt_l, dflt_p, Int.toNat_zero, gt_iff_lt, ge_iff_le, tnat_add, tnat_sub1, tnat_div32, tnat_mod32, ti3, ti4, ti23, ti31, ti34, ti36, ti38, ti44, ti53, ti80]; omega) | exact fun h => h | (intro hq; rw [hq]; rfl) | (simp [SV.cellsL, SV.cells] <;> omega) | (simp_all; done)) ?_
    iterate 2 refine stg (m := false) tabok rfl rfl rfl rfl rfl (by intro hg; have hg0 := hg; (try simp only [Bool.or_eq_true, Bool.and_eq_true, Bool.not_eq_true', Bool.not_eq_false', Bool.or_eq_false_iff, Bool.and_eq_false_imp, decide_eq_true_eq, decide_eq_false_iff_not, Bool.not_true, Bool.not_false, beq_iff_eq, Bool.not_eq_true, Bool.not_eq_false, Bool.true_eq_false, Bool.false_eq_true, not_or, Decidable.not_not, ne_eq] at hg); (try simp only [Int.toNat_natCast, dflt_i, dflt_b, dflt_l, dflt_p, Int.toNat_zero, gt_iff_lt, ge_iff_le] at hg); (repeat' apply And.intro); all_goals first | exact hg0 | exact True.intro | rfl | omega | (simp only [inr]; omega) | (simp only [IntKind.bits]; omega) | (simp only [Bool.or_eq_true, Bool.and_eq_true, Bool.not_eq_true', Bool.not_eq_false', Bool.or_eq_false_iff, Bool.and_eq_false_imp, decide_eq_true_eq, decide_eq_false_iff_not, Bool.not_true, Bool.not_false, beq_iff_eq, Bool.not_eq_true, Bool.not_eq_false, Bool.true_eq_false, Bool.false_eq_true, not_or, Decidable.not_not, ne_eq]; omega) | (simp only [inr, Int.toNat_natCast, dflt_i, dflt_b, dflt_l, dflt_p, Int.toNat_zero, gt_iff_lt, ge_iff_le]; omega) | (simp only [Int.toNat_natCast, dflt_i, dflt_b, dflt_l, dflt_p, Int.toNat_zero, gt_iff_lt, ge_iff_le]; omega) | (simp only [Bool.or_eq_true, Bool.and_eq_true, Bool.not_eq_true', Bool.not_eq_false', Bool.or_eq_false_iff, Bool.and_eq_false_imp, decide_eq_true_eq, decide_eq_false_iff_not, Bool.not_true, Bool.not_false, beq_iff_eq, Bool.not_eq_true, Bool.not_eq_false, Bool.true_eq_false, Bool.false_eq_true, not_or, Decidable.not_not, ne_eq] at hg0 ⊢; simp_all; done) | (simp_all; done) | (simp_all; omega)) ?_
    refine scg (fun hg => rcmp_ok (exN n L d f) (exD n L d f) (exN d L n f) (exD d L n f) m1.1 (m1.2 p1) m2.1 (m2.2 p2) (nmD_pos _ _) (nmD_pos _ _)) rfl rfl rfl rfl (by kernel_rfl) rfl (by kernel_rfl) (fun hg => (.cons (by first | exact argw_same | exact argw_nil | exact argw_tt | exact argw_ff | exact argw_eq rfl) (.cons (by first | exact argw_same | exact argw_nil | exact argw_tt | exact argw_ff | exact argw_eq rfl) .nil))) rfl (by intro hg; have hg0 := hg; (try simp only [Bool.or_eq_true, Bool.and_eq_true, Bool.not_eq_true', Bool.not_eq_false', Bool.or_eq_false_iff, Bool.and_eq_false_imp, decide_eq_true_eq, decide_eq_false_iff_not, Bool.not_true, Bool.not_false, beq_iff_eq, Bool.not_eq_true, Bool.not_eq_false, Bool.true_eq_false, Bool.false_eq_true, not_or, Decidable.not_not, ne_eq] at hg); (try simp only [Int.toNat_natCast, dflt_i, dflt_b, dflt_l, dflt_p, Int.toNat_zero, gt_iff_lt, ge_iff_le] at hg); (repeat' apply And.intro); all_goals first | exact hg0 | exact True.intro | rfl | omega | (simp only [inr]; omega) | (simp only [IntKind.bits]; omega) | (simp only [Bool.or_eq_true, Bool.and_eq_true, Bool.not_eq_true', Bool.not_eq_false', Bool.or_eq_false_iff, Bool.and_eq_false_imp, decide_eq_true_eq, decide_eq_false_iff_not, Bool.not_true, Bool.not_false, beq_iff_eq, Bool.not_eq_true, Bool.not_eq_false, Bool.true_eq_false, Bool.false_eq_true, not_or, Decidable.not_not, ne_eq]; omega) | (simp only [inr, Int.toNat_natCast, dflt_i, dflt_b, dflt_l, dflt_p, Int.toNat_zero, gt_iff_lt, ge_iff_le]; omega) | (simp only [Int.toNat_natCast, dflt_i, dflt_b, dflt_l, dflt_p, Int.toNat_zero, gt_iff_lt, ge_iff_le]; omega) | (simp only [Bool.or_eq_true, Bool.and_eq_true, Bool.not_eq_true', Bool.not_eq_false', Bool.or_eq_false_iff, Bool.and_eq_false_imp, decide_eq_true_eq, decide_eq_false_iff_not, Bool.not_true, Bool.not_false, beq_iff_eq, Bool.not_eq_true, Bool.not_eq_false, Bool.true_eq_false, Bool.false_eq_true, not_or, Decidable.not_not, ne_eq] at hg0 ⊢; simp_all; done) | (simp_all; done) | (simp_all; omega)) ?_
    refine stg (m := false) tabok rfl rfl rfl rfl rfl (by intro hg; have hg0 := hg; (try simp only [Bool.or_eq_true, Bool.and_eq_true, Bool.not_eq_true', Bool.not_eq_false', Bool.or_eq_false_iff, Bool.and_eq_false_imp, decide_eq_true_eq, decide_eq_false_iff_not, Bool.not_true, Bool.not_false, beq_iff_eq, Bool.not_eq_true, Bool.not_eq_false, Bool.true_eq_false, Bool.false_eq_true, not_or, Decidable.not_not, ne_eq] at hg); (try simp only [Int.toNat_natCast, dflt_i, dflt_b, dflt_l, dflt_p, Int.toNat_zero, gt_iff_lt, ge_iff_le] at hg); (repeat' apply And.intro); all_goals first | exact hg0 | exact True.intro | rfl | omega | (simp only [inr]; omega) | (simp only [IntKind.bits]; omega) | (simp only [Bool.or_eq_true, Bool.and_eq_true, Bool.not_eq_true', Bool.not_eq_false', Bool.or_eq_false_iff, Bool.and_eq_false_imp, decide_eq_true_eq, decide_eq_false_iff_not, Bool.not_true, Bool.not_false, beq_iff_eq, Bool.not_eq_true, Bool.not_eq_false, Bool.true_eq_false, Bool.false_eq_true, not_or, Decidable.not_not, ne_eq]; omega) | (simp only [inr, Int.toNat_natCast, dflt_i, dflt_b, dflt_l, dflt_p, Int.toNat_zero, gt_iff_lt, ge_iff_le]; omega) | (simp only [Int.toNat_natCast, dflt_i, dflt_b, dflt_l, dflt_p, Int.toNat_zero, gt_iff_lt, ge_iff_le]; omega) | (simp only [Bool.or_eq_true, Bool.and_eq_true, Bool.not_eq_true', Bool.not_eq_false', Bool.or_eq_false_iff, Bool.and_eq_false_imp, decide_eq_true_eq, decide_eq_false_iff_not, Bool.not_true, Bool.not_false, beq_iff_eq, Bool.not_eq_true, Bool.not_eq_false, Bool.true_eq_false, Bool.false_eq_true, not_or, Decidable.not_not, ne_eq] at hg0 ⊢; simp_all; done) | (simp_all; done) | (simp_all; omega)) ?_
    iterate 2 refine stq (m := false) tabok rfl rfl (by (repeat' apply And.intro) <;> first | exact True.intro | rfl | omega | (simp only [inr, IntKind.bits, Int.toNat_natCast, dflt_i, dflt_b, dflt_l, dflt_p, Int.toNat_zero, gt_iff_lt, ge_iff_le, tnat_add, tnat_sub1, tnat_div32, tnat_mod32, ti3, ti4, ti23, ti31, ti34, ti36, ti38, ti44, ti53, ti80]; omega) | exact fun h => h | (intro hq; rw [hq]; rfl) | (simp [SV.cellsL, SV.cells] <;> omega) | (simp_all; done)) ?_
    refine scg (fun hg => alive_ok) rfl rfl rfl rfl (by kernel_rfl) rfl (by kernel_rfl) (fun hg => .nil) rfl (by intro hg; have hg0 := hg; (try simp only [Bool.or_eq_true, Bool.and_eq_true, Bool.not_eq_true', Bool.not_eq_false', Bool.or_eq_false_iff, Bool.and_eq_false_imp, decide_eq_true_eq, decide_eq_false_iff_not, Bool.not_true, Bool.not_false, beq_iff_eq, Bool.not_eq_true, Bool.not_eq_false, Bool.true_eq_false, Bool.false_eq_true, not_or, Decidable.not_not, ne_eq] at hg); (try simp only [Int.toNat_natCast, dflt_i, dflt_b, dflt_l, dflt_p, Int.toNat_zero, gt_iff_lt, ge_iff_le] at hg); (repeat' apply And.intro); all_goals first | exact hg0 | exact True.intro | rfl | omega | (simp only [inr]; omega) | (simp only [IntKind.bits]; omega) | (simp only [Bool.or_eq_true, Bool.and_eq_true, Bool.not_eq_true', Bool.not_eq_false', Bool.or_eq_false_iff, Bool.and_eq_false_imp, decide_eq_true_eq, decide_eq_false_iff_not, Bool.not_true, Bool.not_false, beq_iff_eq, Bool.not_eq_true, Bool.not_eq_false, Bool.true_eq_false, Bool.false_eq_true, not_or, Decidable.not_not, ne_eq]; omega) | (simp only [inr, Int.toNat_natCast, dflt_i, dflt_b, dflt_l, dflt_p, Int.toNat_zero, gt_iff_lt, ge_iff_le]; omega) | (simp only [Int.toNat_natCast, dflt_i, dflt_b, dflt_l, dflt_p, Int.toNat_zero, gt_iff_lt, ge_iff_le]; omega) | (simp only [Bool.or_eq_true, Bool.and_eq_true, Bool.not_eq_true', Bool.not_eq_false', Bool.or_eq_false_iff, Bool.and_eq_false_imp, decide_eq_true_eq, decide_eq_false_iff_not, Bool.not_true, Bool.not_false, beq_iff_eq, Bool.not_eq_true, Bool.not_eq_false, Bool.true_eq_false, Bool.false_eq_true, not_or, Decidable.not_not, ne_eq] at hg0 ⊢; simp_all; done) | (simp_all; done) | (simp_all; omega)) ?_
    iterate 2 refine stq (m := false) tabok rfl rfl (by (repeat' apply And.intro) <;> first | exact True.intro | rfl | omega | (simp only [inr, IntKind.bits, Int.toNat_natCast, dflt_i, dflt_b, dflt_l, dflt_p, Int.toNat_zero, gt_iff_lt, ge_iff_le, tnat_add, tnat_sub1, tnat_div32, tnat_mod32, ti3, ti4, ti23, ti31, ti34, ti36, ti38, ti44, ti53, ti80]; omega) | exact fun h => h | (intro hq; rw [hq]; rfl) | (simp [SV.cellsL, SV.cells] <;> omega) | (simp_all; done)) ?_
    refine ops_nil ?_
    refine aw_ret ?_
    -- leaf ret.2f
    refine ret_c ?_
    obtain ⟨x1, x2⟩ := ex_exch (n := n) (L := L) (d := d) (f := f) (by omega) (by omega) (by omega)
    refine fs_bool ?_
    rw [x1, x2, cmp_self]
    rfl
abbrev TLot : Ty := .p TI64 (.p TI64 TI64)
theorem exchange_law (p : Int × Int) (x : Int × Int × Int) (_ : WfD TPlan p) (_ : WfD TLot x) : CS Try.prog 8 [.agg [.int .i64 p.1, .int .i64 p.2], .agg [.int .i64 x.1, .int .i64 x.2.1, .int .i64 x.2.2]] (.bool true) := exchange_ok p.1 p.2 x.1 x.2.1 x.2.2
end Go.Sim
end
section
set_option autoImplicit false
set_option linter.unusedSimpArgs false
set_option linter.unusedVariables false
namespace Go.Sim
open Go
def sumN (g : Nat → Nat) : Nat → Nat
  | 0 => 0
  | k + 1 => sumN g k + g k
theorem sumN_shift (g : Nat → Nat) : ∀ k, sumN g (k + 1) = g 0 + sumN (fun i => g (i + 1)) k
  | 0 => by simp [sumN]
  | k + 1 => by
    rw [sumN, sumN_shift g k]
    simp only [sumN]
    omega
theorem sumN_congr {g h : Nat → Nat} : ∀ {k : Nat}, (∀ i, i < k → g i = h i) → sumN g k = sumN h k
  | 0, _ => rfl
  | k + 1, e => by rw [sumN, sumN, sumN_congr fun i hi => e i (by omega), e k (by omega)]
theorem sumN_add (g h : Nat → Nat) : ∀ k, sumN (fun i => g i + h i) k = sumN g k + sumN h k
  | 0 => rfl
  | k + 1 => by simp only [sumN, sumN_add g h k]; omega
theorem sumN_mul (c : Nat) (g : Nat → Nat) : ∀ k, sumN (fun i => c * g i) k = c * sumN g k
  | 0 => rfl
  | k + 1 => by simp only [sumN, sumN_mul c g k]; rw [Nat.mul_add]
theorem sumN_zero (g : Nat → Nat) : ∀ k, (∀ i, i < k → g i = 0) → sumN g k = 0
  | 0, _ => rfl
  | k + 1, h => by rw [sumN, sumN_zero g k fun i hi => h i (by omega), h k (by omega)]
theorem sumN_le (g : Nat → Nat) {a b : Nat} (h : a ≤ b) : sumN g a ≤ sumN g b := by
  induction b with
  | zero => have : a = 0 := by omega
            subst this; exact Nat.le_refl _
  | succ b ih =>
    rcases Nat.lt_or_ge a (b + 1) with hl | hl
    · have := ih (by omega); rw [sumN]; omega
    · have : a = b + 1 := by omega
      subst this; exact Nat.le_refl _
theorem vand : ∀ (a b N : Nat), sumN (fun f => ch a f * ch b (N - f)) (N + 1) = ch (a + b) N
  | 0, b, N => by
    rw [sumN_shift]
    simp only [ch_zero, Nat.sub_zero, Nat.one_mul, Nat.zero_add]
    rw [sumN_zero]
    · rfl
    · intro i _
      simp [ch]
  | a + 1, b, N => by
    rw [sumN_shift]
    simp only [ch_zero, Nat.sub_zero, Nat.one_mul]
    cases N with
    | zero => simp [sumN, ch_zero]
    | succ M =>
      have e : sumN (fun i => ch (a + 1) (i + 1) * ch b (M + 1 - (i + 1))) (M + 1) = sumN (fun i => ch a i * ch b (M - i)) (M + 1) + sumN (fun i => ch a (i + 1) * ch b (M + 1 - (i + 1))) (M + 1) := by
        rw [← sumN_add]
        refine sumN_congr fun i _ => ?_
        rw [ch, Nat.add_mul, Nat.add_sub_add_right]
      have h1 := vand a b M
      have h2 := vand a b (M + 1)
      rw [sumN_shift] at h2
      simp only [ch_zero, Nat.sub_zero, Nat.one_mul] at h2
      rw [e, h1, show a + 1 + b = a + b + 1 by omega, ch, ← h2]
      omega
theorem mean_id {L N d : Nat} (hd : d ≤ L) (hN : N ≤ L) (hN0 : 0 < N) : sumN (fun f => f * (ch d f * ch (L - d) (N - f))) (N + 1) * L = N * d * ch L N := by
  rw [sumN_shift]
  simp only [Nat.zero_mul, Nat.zero_add]
  obtain ⟨M, rfl⟩ : ∃ M, N = M + 1 := ⟨N - 1, by omega⟩
  obtain ⟨l, rfl⟩ : ∃ l, L = l + 1 := ⟨L - 1, by omega⟩
  cases d with
  | zero =>
    rw [sumN_zero]
    · simp
    · intro i _; simp [ch]
  | succ e =>
    have h1 : sumN (fun i => (i + 1) * (ch (e + 1) (i + 1) * ch (l + 1 - (e + 1)) (M + 1 - (i + 1)))) (M + 1) = sumN (fun i => (e + 1) * (ch e i * ch (l - e) (M - i))) (M + 1) := by
      refine sumN_congr fun i _ => ?_
      rw [← Nat.mul_assoc, ch_mul, Nat.add_sub_add_right, Nat.add_sub_add_right, Nat.mul_assoc]
    rw [h1, sumN_mul, vand, show e + (l - e) = l by omega]
    have := ch_mul l M
    have h2 : (M + 1) * (e + 1) * ch (l + 1) (M + 1) = (e + 1) * ((M + 1) * ch (l + 1) (M + 1)) := by grind
    rw [h2, this]
    grind
theorem mono_id (K m N : Nat) : ∀ k, k + 1 ≤ N → sumN (fun f => ch (K + 1) f * ch m (N - f)) (k + 1) + ch K k * ch m (N - k - 1) = sumN (fun f => ch K f * ch (m + 1) (N - f)) (k + 1)
  | 0, h => by
    obtain ⟨M, rfl⟩ : ∃ M, N = M + 1 := ⟨N - 1, by omega⟩
    simp [sumN, ch_zero, ch]
    omega
  | k + 1, h => by
    have ih := mono_id K m N k (by omega)
    obtain ⟨M, rfl⟩ : ∃ M, N = M + k + 2 := ⟨N - (k + 2), by omega⟩
    have s1 : sumN (fun f => ch (K + 1) f * ch m (M + k + 2 - f)) (k + 1 + 1) = sumN (fun f => ch (K + 1) f * ch m (M + k + 2 - f)) (k + 1) + ch (K + 1) (k + 1) * ch m (M + k + 2 - (k + 1)) := rfl
    have s2 : sumN (fun f => ch K f * ch (m + 1) (M + k + 2 - f)) (k + 1 + 1) = sumN (fun f => ch K f * ch (m + 1) (M + k + 2 - f)) (k + 1) + ch K (k + 1) * ch (m + 1) (M + k + 2 - (k + 1)) := rfl
    rw [s1, s2, ← ih]
    rw [show M + k + 2 - (k + 1) = M + 1 by omega, show M + 1 - 1 = M by omega, show M + k + 2 - k - 1 = M + 1 by omega]
    have e1 : ch (K + 1) (k + 1) = ch K k + ch K (k + 1) := rfl
    have e2 : ch (m + 1) (M + 1) = ch m M + ch m (M + 1) := rfl
    rw [e1, e2]
    grind
theorem mono_le {K L N C : Nat} (hK : K < L) (hC : C < N) : sumN (fun f => ch (K + 1) f * ch (L - (K + 1)) (N - f)) (C + 1) ≤ sumN (fun f => ch K f * ch (L - K) (N - f)) (C + 1) := by
  have := mono_id K (L - (K + 1)) N C (by omega)
  rw [show L - (K + 1) + 1 = L - K by omega] at this
  omega
theorem first_id {L N C : Nat} : sumN (fun f => ch 0 f * ch (L - 0) (N - f)) (C + 1) = ch L N := by
  rw [sumN_shift, sumN_zero]
  · simp [ch_zero]
  · intro i _; simp [ch]
theorem last_id {L N C : Nat} (hC : C < N) : sumN (fun f => ch L f * ch (L - L) (N - f)) (C + 1) = 0 := by
  refine sumN_zero _ _ fun i hi => ?_
  rw [Nat.sub_self]
  obtain ⟨j, hj⟩ : ∃ j, N - i = j + 1 := ⟨N - i - 1, by omega⟩
  rw [hj]; simp [ch]
/-- The sum of two fractions, over one denominator. -/
theorem nm_sum {A B S C p q t : Nat} (hB : 0 < B) (hC : 0 < C) (hq : 0 < q) (h1 : A * C = S * B) (h2 : p * C = t * q) : nmN (A * q + p * B) (B * q) = nmN (S + t) C ∧ nmD (A * q + p * B) (B * q) = nmD (S + t) C := by
  refine nm_eq (Nat.mul_pos hB hq) hC ?_
  have e : (A * q + p * B) * C = (A * C) * q + (p * C) * B := by grind
  rw [e, h1, h2]
  grind
theorem nm_scale {s C k : Nat} (hC : 0 < C) : nmN (nmN s C * k) (nmD s C * 1) * C = s * k * nmD (nmN s C * k) (nmD s C * 1) := by
  have h1 := nm_val (n := s) hC
  have h2 := nm_val (n := nmN s C * k) (d := nmD s C * 1) (by have := nmD_pos s C; omega)
  have hp := nmD_pos s C
  refine Nat.eq_of_mul_eq_mul_right hp ?_
  generalize nmN (nmN s C * k) (nmD s C * 1) = p at *
  generalize nmD (nmN s C * k) (nmD s C * 1) = q at *
  generalize nmN s C = y at *
  generalize nmD s C = w at *
  have e1 : p * C * w = (p * (w * 1)) * C := by grind
  rw [e1, h2]
  have e2 : y * k * q * C = (y * C) * (k * q) := by grind
  rw [e2, h1]
  grind
end Go.Sim
end
section
set_option autoImplicit false
set_option linter.unusedSimpArgs false
set_option linter.unusedVariables false
namespace Go.Sim
open Go
def onesN (m : Nat) : Nat → Nat
  | 0 => 0
  | n + 1 => onesN m n + m / 2 ^ n % 2
theorem onesN_le (m : Nat) : ∀ n, onesN m n ≤ n
  | 0 => Nat.le_refl _
  | n + 1 => by
    have := onesN_le m n
    rw [onesN]
    omega
theorem onesN_low {m k : Nat} : ∀ n, n ≤ k → onesN (2 ^ k + m) n = onesN m n
  | 0, _ => rfl
  | n + 1, h => by
    rw [onesN, onesN, onesN_low n (by omega)]
    congr 1
    obtain ⟨j, rfl⟩ : ∃ j, k = n + 1 + j := ⟨k - (n + 1), by omega⟩
    have e : 2 ^ (n + 1 + j) = 2 ^ n * (2 * 2 ^ j) := by
      rw [Nat.pow_add, Nat.pow_succ, Nat.mul_assoc]
    rw [e, Nat.add_comm, Nat.add_mul_div_left _ _ (Nat.two_pow_pos n)]
    omega
theorem onesN_top {m k : Nat} (h : m < 2 ^ k) : onesN (2 ^ k + m) (k + 1) = onesN m k + 1 := by
  rw [onesN, onesN_low k (Nat.le_refl _)]
  congr 1
  rw [Nat.add_comm, Nat.add_div_right _ (Nat.two_pow_pos k), Nat.div_eq_of_lt h]
theorem onesN_off {m k : Nat} (h : m < 2 ^ k) : onesN m (k + 1) = onesN m k := by
  rw [onesN, Nat.div_eq_of_lt h]; simp
theorem sumN_app (g : Nat → Nat) (a : Nat) : ∀ b, sumN g (a + b) = sumN g a + sumN (fun i => g (a + i)) b
  | 0 => rfl
  | b + 1 => by
    rw [← Nat.add_assoc, sumN, sumN_app g a b]
    simp only [sumN]
    omega
def ind (p : Prop) [Decidable p] : Nat := if p then 1 else 0
theorem cnt1 : ∀ (D f : Nat), sumN (fun m => ind (onesN m D = f)) (2 ^ D) = ch D f
  | 0, 0 => rfl
  | 0, f + 1 => by simp [sumN, ind, onesN, ch]
  | D + 1, f => by
    rw [Nat.pow_succ, Nat.mul_two, sumN_app]
    have h1 : sumN (fun m => ind (onesN m (D + 1) = f)) (2 ^ D) = ch D f := by
      rw [← cnt1 D f]
      exact sumN_congr fun i hi => by rw [onesN_off hi]
    rw [h1]
    cases f with
    | zero =>
      rw [sumN_zero, ch_zero, ch_zero]
      intro i hi
      unfold ind
      rw [onesN_top hi, if_neg (by omega)]
    | succ f =>
      have h2 : sumN (fun i => ind (onesN (2 ^ D + i) (D + 1) = f + 1)) (2 ^ D) = ch D f := by
        rw [← cnt1 D f]
        refine sumN_congr fun i hi => ?_
        unfold ind
        rw [onesN_top hi]
        by_cases e : onesN i D = f
        · rw [if_pos (by omega), if_pos e]
        · rw [if_neg (by omega), if_neg e]
      rw [h2, ch]
      omega
theorem cnt2 : ∀ (l D N f : Nat), sumN (fun m => ind (onesN m (D + l) = N ∧ onesN m D = f)) (2 ^ (D + l)) = if f ≤ N then ch D f * ch l (N - f) else 0
  | 0, D, N, f => by
    by_cases e : f = N
    · subst e
      rw [if_pos (Nat.le_refl _), Nat.sub_self, ch_zero, Nat.mul_one, ← cnt1 D f]
      refine sumN_congr fun i _ => ?_
      unfold ind
      simp
    · rw [sumN_zero]
      · split
        · obtain ⟨j, hj⟩ : ∃ j, N - f = j + 1 := ⟨N - f - 1, by omega⟩
          rw [hj]; simp [ch]
        · rfl
      · intro i _
        unfold ind
        rw [if_neg]
        intro ⟨h1, h2⟩
        exact e (h2.symm.trans h1)
  | l + 1, D, N, f => by
    rw [← Nat.add_assoc, Nat.pow_succ, Nat.mul_two, sumN_app]
    have h1 : sumN (fun m => ind (onesN m (D + l + 1) = N ∧ onesN m D = f)) (2 ^ (D + l)) = if f ≤ N then ch D f * ch l (N - f) else 0 := by
      rw [← cnt2 l D N f]
      exact sumN_congr fun i hi => by rw [onesN_off hi]
    rw [h1]
    cases N with
    | zero =>
      rw [sumN_zero]
      · split
        · rename_i h
          have : f = 0 := by omega
          subst this
          simp [ch_zero]
        · rfl
      · intro i hi
        unfold ind
        rw [onesN_top hi, if_neg (by omega)]
    | succ N =>
      have h2 : sumN (fun i => ind (onesN (2 ^ (D + l) + i) (D + l + 1) = N + 1 ∧ onesN (2 ^ (D + l) + i) D = f)) (2 ^ (D + l)) = if f ≤ N then ch D f * ch l (N - f) else 0 := by
        rw [← cnt2 l D N f]
        refine sumN_congr fun i hi => ?_
        unfold ind
        rw [onesN_top hi, onesN_low D (by omega)]
        by_cases e : onesN i (D + l) = N ∧ onesN i D = f
        · rw [if_pos (by omega), if_pos e]
        · rw [if_neg (by omega), if_neg e]
      rw [h2]
      by_cases h : f ≤ N
      · rw [if_pos (by omega), if_pos h, if_pos (by omega), show N + 1 - f = (N - f) + 1 by omega, ch, Nat.mul_add]
        omega
      · by_cases e : f = N + 1
        · subst e
          rw [if_pos (Nat.le_refl _), if_neg (by omega), if_pos (Nat.le_refl _), Nat.sub_self, ch_zero, ch_zero, Nat.add_zero]
        · rw [if_neg (by omega), if_neg h, if_neg (by omega)]
theorem and1i {x : Int} (h : 0 ≤ x ∧ x < 9223372036854775808) : bitsI .and .i64 x 1 = x % 2 := by
  obtain ⟨a, rfl⟩ := Int.eq_ofNat_of_zero_le h.1
  simp only [bitsI, BitVec.toNat_and, BitVec.toNat_ofInt]
  have e1 : ((a : Int) % ((2 ^ IntKind.i64.bits : Nat) : Int)).toNat = a := by
    rw [show ((2 ^ IntKind.i64.bits : Nat) : Int) = 18446744073709551616 by decide]; omega
  have e2 : ((1 : Int) % ((2 ^ IntKind.i64.bits : Nat) : Int)).toNat = 1 := by decide
  rw [e1, e2, Nat.and_one_is_mod, IntKind.wrap_i64]
  omega
end Go.Sim
end
section
namespace Go.Sim
open Go Go.Proofs
set_option maxRecDepth 10000
set_option autoImplicit false
set_option linter.unusedSimpArgs false
set_option linter.unusedVariables false
theorem bit_rng (m i : Nat) (hm : m < 1048576) : 0 ≤ (m : Int) / 2 ^ i ∧ (m : Int) / 2 ^ i < 1048576 := by
  have e : (2 : Int) ^ i = ((2 ^ i : Nat) : Int) := by rw [Int.natCast_pow]; rfl
  rw [e, ← Int.natCast_ediv]
  have := Nat.div_le_self m (2 ^ i)
  generalize m / 2 ^ i = q at *
  omega
theorem bit_eq (m i : Nat) (hm : m < 1048576) : bitsI .and .i64 ((m : Int) / 2 ^ i) 1 = ((m / 2 ^ i % 2 : Nat) : Int) := by
  have h := bit_rng m i hm
  rw [and1i (by omega)]
  have e : (2 : Int) ^ i = ((2 ^ i : Nat) : Int) := by rw [Int.natCast_pow]; rfl
  rw [e]
  omega
theorem ones_ok (m n : Nat) (hm : m < 1048576) (hn : n ≤ 40) : CS Try.prog 28 [.int .u64 (m : Int), .int .i64 (n : Int)] (.int .i64 (onesN m n : Nat)) := by
  refine fn_c [4] Try.func28 Try.ntmps28 rfl rfl rfl rfl ?_
  refine aw_seq ?_
  refine aw_reg _ (by kernel_rfl) rfl ?_
  refine zst tabok rfl rfl rfl ?_
  refine ops_nil ?_
  refine aw_seq ?_
  refine aw_reg _ (by kernel_rfl) rfl ?_
  refine zst tabok rfl rfl rfl ?_
  refine ops_nil ?_
  refine aw_seq ?_
  refine aw_seq ?_
  refine aw_reg _ (by kernel_rfl) rfl ?_
  iterate 2 refine zst tabok rfl rfl rfl ?_
  refine ops_nil ?_
  refine aw_block ?_
  refine aw_loop (X := (Nat)) (fun (i : Nat) => outT (look [(0, .int .u64 (m : Int)), (5, .int .i64 (onesN m i : Nat)), (7, .int .i64 (n : Int)), (8, .int .i64 (i : Int))])) (fun (i : Nat) => outS []) (fun (i : Nat) => (i ≤ n)) (fun (i : Nat) => n - i) (0) ?_ ?_ ?_
  -- leaf L0:entry
  · exact (by refine goes_to (tm := _) (st := _) [] rfl rfl True.intro ⟨?_, ?_, ?_, ?_, True.intro⟩ <;> first | exact sk rfl rfl | exact sk (q_int (by omega)) rfl | exact sk (q_bool (by simp)) rfl | exact sk (q_view rfl rfl rfl (by omega)) rfl | exact sk (q_gview rfl (by simp)) rfl | exact sk (q_nil rfl) rfl | exact sk (q_row (by simp)) rfl | exact sk_g rfl rfl rfl rfl | exact sk_v rfl rfl rfl rfl rfl | exact sk_n rfl)
  · first | omega | assumption | simp
  · skip
    rintro i hi
    change awpB _ _ _ _ _ (outT (look [(0, .int .u64 (m : Int)), (5, .int .i64 (onesN m i : Nat)), (7, .int .i64 (n : Int)), (8, .int .i64 (i : Int))])) (outS [])
    have h1 := bit_rng m i hm
    have h2 := bit_eq m i hm
    have h3 := onesN_le m i
    refine aw_seq ?_
    refine aw_reg _ (by kernel_rfl) rfl ?_
    refine zst tabok rfl rfl rfl ?_
    refine ops_nil ?_
    refine aw_seq ?_
    refine aw_if rfl (fun c3 => ?_) (fun c3 => ?_)
    · try simp only [Bool.or_eq_true, Bool.and_eq_true, Bool.not_eq_true', Bool.not_eq_false', Bool.or_eq_false_iff, Bool.and_eq_false_imp, decide_eq_true_eq, decide_eq_false_iff_not, Bool.not_true, Bool.not_false, beq_iff_eq, Bool.not_eq_true, Bool.not_eq_false, Bool.true_eq_false, Bool.false_eq_true, not_or, Decidable.not_not, ne_eq] at c3
      try simp only [Int.toNat_natCast, dflt_i, dflt_b, dflt_l, dflt_p, Int.toNat_zero, gt_iff_lt, ge_iff_le] at c3
      refine aw_skip ?_
      refine aw_seq ?_
      refine aw_block ?_
      refine aw_seq ?_
      refine aw_reg _ (by kernel_rfl) rfl ?_
      iterate 2 refine zst tabok rfl rfl rfl ?_
      refine ops_nil ?_
      refine aw_reg _ (by kernel_rfl) rfl ?_
      iterate 4 refine stq (m := false) tabok rfl rfl (by (repeat' apply And.intro) <;> first | exact True.intro | rfl | omega | (simp only [inr, IntKind.bits, Int.toNat_natCast, dflt_i, dflt_b, dflt_l, dflt_p, Int.toNat_zero, gt_iff_lt, ge_iff_le, tnat_add, tnat_sub1, tnat_div32, tnat_mod32, ti3, ti4, ti23, ti31, ti34, ti36, ti38, ti44, ti53, ti80]; omega) | exact fun h => h | (intro hq; rw [hq]; rfl) | (simp [SV.cellsL, SV.cells] <;> omega) | (simp_all; done)) ?_
      refine st (m := false) tabok rfl rfl rfl (by exact ⟨by omega, by show (i : Int) ≤ 64; omega⟩) ?_
      refine st (m := false) tabok rfl rfl rfl (by show inr .i64 ((m : Int) / 2 ^ (i : Int).toNat); rw [Int.toNat_natCast]; simp only [inr]; omega) ?_
      refine stq (m := false) tabok rfl rfl (by (repeat' apply And.intro) <;> first | exact True.intro | rfl | omega | (simp only [inr, IntKind.bits, Int.toNat_natCast, dflt_i, dflt_b, dflt_l, dflt_p, Int.toNat_zero, gt_iff_lt, ge_iff_le, tnat_add, tnat_sub1, tnat_div32, tnat_mod32, ti3, ti4, ti23, ti31, ti34, ti36, ti38, ti44, ti53, ti80]; omega) | exact fun h => h | (intro hq; rw [hq]; rfl) | (simp [SV.cellsL, SV.cells] <;> omega) | (simp_all; done)) ?_
      refine st (m := false) tabok rfl rfl rfl (by show inr .i64 ((onesN m i : Nat) + bitsI .and .i64 ((m : Int) / 2 ^ (i : Int).toNat) 1); rw [Int.toNat_natCast, h2]; simp only [inr]; omega) ?_
      refine zst tabok rfl rfl rfl ?_
      refine ops_nil ?_
      refine aw_reg _ (by kernel_rfl) rfl ?_
      iterate 2 refine stq (m := false) tabok rfl rfl (by (repeat' apply And.intro) <;> first | exact True.intro | rfl | omega | (simp only [inr, IntKind.bits, Int.toNat_natCast, dflt_i, dflt_b, dflt_l, dflt_p, Int.toNat_zero, gt_iff_lt, ge_iff_le, tnat_add, tnat_sub1, tnat_div32, tnat_mod32, ti3, ti4, ti23, ti31, ti34, ti36, ti38, ti44, ti53, ti80]; omega) | exact fun h => h | (intro hq; rw [hq]; rfl) | (simp [SV.cellsL, SV.cells] <;> omega) | (simp_all; done)) ?_
      refine ops_nil ?_
      -- leaf L0.3t
      refine Exists.intro (i + 1) ⟨?_, ?_, ?_⟩
      · exact (by refine goes_to (tm := _) (st := _) [] rfl rfl True.intro ⟨?_, (by refine sk ?_ rfl; exact q_int (by show ((onesN m i : Nat) : Int) + bitsI .and .i64 ((m : Int) / 2 ^ (i : Int).toNat) 1 = _; rw [Int.toNat_natCast, h2, onesN]; omega)), ?_, ?_, True.intro⟩ <;> first | exact sk rfl rfl | exact sk (q_int (by omega)) rfl | exact sk (q_bool (by simp)) rfl | exact sk (q_view rfl rfl rfl (by omega)) rfl | exact sk (q_gview rfl (by simp)) rfl | exact sk (q_nil rfl) rfl | exact sk (q_row (by simp)) rfl | exact sk_g rfl rfl rfl rfl | exact sk_v rfl rfl rfl rfl rfl | exact sk_n rfl)
      · try dsimp only
        first | omega | assumption | simp
      · (try dsimp only); omega
    · try simp only [Bool.or_eq_true, Bool.and_eq_true, Bool.not_eq_true', Bool.not_eq_false', Bool.or_eq_false_iff, Bool.and_eq_false_imp, decide_eq_true_eq, decide_eq_false_iff_not, Bool.not_true, Bool.not_false, beq_iff_eq, Bool.not_eq_true, Bool.not_eq_false, Bool.true_eq_false, Bool.false_eq_true, not_or, Decidable.not_not, ne_eq] at c3
      try simp only [Int.toNat_natCast, dflt_i, dflt_b, dflt_l, dflt_p, Int.toNat_zero, gt_iff_lt, ge_iff_le] at c3
      refine aw_exit ?_
      refine aw_seq ?_
      refine aw_reg _ (by kernel_rfl) rfl ?_
      iterate 2 refine zst tabok rfl rfl rfl ?_
      refine ops_nil ?_
      refine aw_ret ?_
      -- leaf ret.3f
      refine ret_c ?_
      have e : i = n := by omega
      subst e
      exact fs_int rfl
theorem ones_at (x y : Int) (m n : Nat) (h1 : x = m) (h2 : y = n) (hm : m < 1048576) (hn : n ≤ 40) : CS Try.prog 28 [.int .u64 x, .int .i64 y] (.int .i64 (onesN m n : Nat)) := by
  subst h1 h2; exact ones_ok m n hm hn
theorem rof_at (x y : Int) (n d : Nat) (hx : x = n) (hy : y = d) (hn : n < 9223372036854775808) (hd : d < 9223372036854775808) (h0 : 0 < d) : CS Try.prog 29 [.int .i64 x, .int .i64 y] (.tup [ratZ (nmN n d) (nmD n d), .tt]) := by
  subst hx hy; exact rof_ok n d hn hd h0
theorem ind_le (p : Prop) [Decidable p] : ind p ≤ 1 := by unfold ind; split <;> omega
theorem sumN_ind (P : Nat → Prop) [∀ i, Decidable (P i)] : ∀ k, sumN (fun i => ind (P i)) k ≤ k
  | 0 => Nat.le_refl _
  | k + 1 => by
    have := sumN_ind P k
    have := ind_le (P k)
    simp only [sumN]
    omega
theorem counts_ok (n c L d f : Int) : CS Try.prog 9 [planV n c, lotV L d f] (.bool true) := by
  refine fn_c [4] Try.func9 Try.ntmps9 rfl rfl rfl rfl ?_
  refine aw_seq ?_
  refine aw_reg _ (by kernel_rfl) rfl ?_
  iterate 3 refine zst tabok rfl rfl rfl ?_
  refine ops_nil ?_
  refine aw_seq ?_
  refine aw_seq ?_
  refine aw_reg _ (by kernel_rfl) rfl ?_
  iterate 4 refine stq (m := false) tabok rfl rfl (by (repeat' apply And.intro) <;> first | exact True.intro | rfl | omega | (simp only [inr, IntKind.bits, Int.toNat_natCast, dflt_i, dflt_b, dflt_l, dflt_p, Int.toNat_zero, gt_iff_lt, ge_iff_le, tnat_add, tnat_sub1, tnat_div32, tnat_mod32, ti3, ti4, ti23, ti31, ti34, ti36, ti38, ti44, ti53, ti80]; omega) | exact fun h => h | (intro hq; rw [hq]; rfl) | (simp [SV.cellsL, SV.cells] <;> omega) | (simp_all; done)) ?_
  iterate 3 refine stg (m := false) tabok rfl rfl rfl rfl rfl (by intro hg; have hg0 := hg; (try simp only [Bool.or_eq_true, Bool.and_eq_true, Bool.not_eq_true', Bool.not_eq_false', Bool.or_eq_false_iff, Bool.and_eq_false_imp, decide_eq_true_eq, decide_eq_false_iff_not, Bool.not_true, Bool.not_false, beq_iff_eq, Bool.not_eq_true, Bool.not_eq_false, Bool.true_eq_false, Bool.false_eq_true, not_or, Decidable.not_not, ne_eq] at hg); (try simp only [Int.toNat_natCast, dflt_i, dflt_b, dflt_l, dflt_p, Int.toNat_zero, gt_iff_lt, ge_iff_le] at hg); (repeat' apply And.intro); all_goals first | exact hg0 | exact True.intro | rfl | omega | (simp only [inr]; omega) | (simp only [IntKind.bits]; omega) | (simp only [Bool.or_eq_true, Bool.and_eq_true, Bool.not_eq_true', Bool.not_eq_false', Bool.or_eq_false_iff, Bool.and_eq_false_imp, decide_eq_true_eq, decide_eq_false_iff_not, Bool.not_true, Bool.not_false, beq_iff_eq, Bool.not_eq_true, Bool.not_eq_false, Bool.true_eq_false, Bool.false_eq_true, not_or, Decidable.not_not, ne_eq]; omega) | (simp only [inr, Int.toNat_natCast, dflt_i, dflt_b, dflt_l, dflt_p, Int.toNat_zero, gt_iff_lt, ge_iff_le]; omega) | (simp only [Int.toNat_natCast, dflt_i, dflt_b, dflt_l, dflt_p, Int.toNat_zero, gt_iff_lt, ge_iff_le]; omega) | (simp only [Bool.or_eq_true, Bool.and_eq_true, Bool.not_eq_true', Bool.not_eq_false', Bool.or_eq_false_iff, Bool.and_eq_false_imp, decide_eq_true_eq, decide_eq_false_iff_not, Bool.not_true, Bool.not_false, beq_iff_eq, Bool.not_eq_true, Bool.not_eq_false, Bool.true_eq_false, Bool.false_eq_true, not_or, Decidable.not_not, ne_eq] at hg0 ⊢; simp_all; done) | (simp_all; done) | (simp_all; omega)) ?_
  refine scg (fun hg => rcheck_ok n c L) rfl rfl rfl rfl (by kernel_rfl) rfl (by kernel_rfl) (fun hg => (.cons (by first | exact argw_same | exact argw_nil | exact argw_tt | exact argw_ff | exact argw_eq rfl) (.cons (by first | exact argw_same | exact argw_nil | exact argw_tt | exact argw_ff | exact argw_eq rfl) .nil))) rfl (by intro hg; have hg0 := hg; (try simp only [Bool.or_eq_true, Bool.and_eq_true, Bool.not_eq_true', Bool.not_eq_false', Bool.or_eq_false_iff, Bool.and_eq_false_imp, decide_eq_true_eq, decide_eq_false_iff_not, Bool.not_true, Bool.not_false, beq_iff_eq, Bool.not_eq_true, Bool.not_eq_false, Bool.true_eq_false, Bool.false_eq_true, not_or, Decidable.not_not, ne_eq] at hg); (try simp only [Int.toNat_natCast, dflt_i, dflt_b, dflt_l, dflt_p, Int.toNat_zero, gt_iff_lt, ge_iff_le] at hg); (repeat' apply And.intro); all_goals first | exact hg0 | exact True.intro | rfl | omega | (simp only [inr]; omega) | (simp only [IntKind.bits]; omega) | (simp only [Bool.or_eq_true, Bool.and_eq_true, Bool.not_eq_true', Bool.not_eq_false', Bool.or_eq_false_iff, Bool.and_eq_false_imp, decide_eq_true_eq, decide_eq_false_iff_not, Bool.not_true, Bool.not_false, beq_iff_eq, Bool.not_eq_true, Bool.not_eq_false, Bool.true_eq_false, Bool.false_eq_true, not_or, Decidable.not_not, ne_eq]; omega) | (simp only [inr, Int.toNat_natCast, dflt_i, dflt_b, dflt_l, dflt_p, Int.toNat_zero, gt_iff_lt, ge_iff_le]; omega) | (simp only [Int.toNat_natCast, dflt_i, dflt_b, dflt_l, dflt_p, Int.toNat_zero, gt_iff_lt, ge_iff_le]; omega) | (simp only [Bool.or_eq_true, Bool.and_eq_true, Bool.not_eq_true', Bool.not_eq_false', Bool.or_eq_false_iff, Bool.and_eq_false_imp, decide_eq_true_eq, decide_eq_false_iff_not, Bool.not_true, Bool.not_false, beq_iff_eq, Bool.not_eq_true, Bool.not_eq_false, Bool.true_eq_false, Bool.false_eq_true, not_or, Decidable.not_not, ne_eq] at hg0 ⊢; simp_all; done) | (simp_all; done) | (simp_all; omega)) ?_
  refine stg (m := false) tabok rfl rfl rfl rfl rfl (by intro hg; have hg0 := hg; (try simp only [Bool.or_eq_true, Bool.and_eq_true, Bool.not_eq_true', Bool.not_eq_false', Bool.or_eq_false_iff, Bool.and_eq_false_imp, decide_eq_true_eq, decide_eq_false_iff_not, Bool.not_true, Bool.not_false, beq_iff_eq, Bool.not_eq_true, Bool.not_eq_false, Bool.true_eq_false, Bool.false_eq_true, not_or, Decidable.not_not, ne_eq] at hg); (try simp only [Int.toNat_natCast, dflt_i, dflt_b, dflt_l, dflt_p, Int.toNat_zero, gt_iff_lt, ge_iff_le] at hg); (repeat' apply And.intro); all_goals first | exact hg0 | exact True.intro | rfl | omega | (simp only [inr]; omega) | (simp only [IntKind.bits]; omega) | (simp only [Bool.or_eq_true, Bool.and_eq_true, Bool.not_eq_true', Bool.not_eq_false', Bool.or_eq_false_iff, Bool.and_eq_false_imp, decide_eq_true_eq, decide_eq_false_iff_not, Bool.not_true, Bool.not_false, beq_iff_eq, Bool.not_eq_true, Bool.not_eq_false, Bool.true_eq_false, Bool.false_eq_true, not_or, Decidable.not_not, ne_eq]; omega) | (simp only [inr, Int.toNat_natCast, dflt_i, dflt_b, dflt_l, dflt_p, Int.toNat_zero, gt_iff_lt, ge_iff_le]; omega) | (simp only [Int.toNat_natCast, dflt_i, dflt_b, dflt_l, dflt_p, Int.toNat_zero, gt_iff_lt, ge_iff_le]; omega) | (simp only [Bool.or_eq_true, Bool.and_eq_true, Bool.not_eq_true', Bool.not_eq_false', Bool.or_eq_false_iff, Bool.and_eq_false_imp, decide_eq_true_eq, decide_eq_false_iff_not, Bool.not_true, Bool.not_false, beq_iff_eq, Bool.not_eq_true, Bool.not_eq_false, Bool.true_eq_false, Bool.false_eq_true, not_or, Decidable.not_not, ne_eq] at hg0 ⊢; simp_all; done) | (simp_all; done) | (simp_all; omega)) ?_
  iterate 2 refine stq (m := false) tabok rfl rfl (by (repeat' apply And.intro) <;> first | exact True.intro | rfl | omega | (simp only [inr, IntKind.bits, Int.toNat_natCast, dflt_i, dflt_b, dflt_l, dflt_p, Int.toNat_zero, gt_iff_lt, ge_iff_le, tnat_add, tnat_sub1, tnat_div32, tnat_mod32, ti3, ti4, ti23, ti31, ti34, ti36, ti38, ti44, ti53, ti80]; omega) | exact fun h => h | (intro hq; rw [hq]; rfl) | (simp [SV.cellsL, SV.cells] <;> omega) | (simp_all; done)) ?_
  iterate 3 refine stg (m := false) tabok rfl rfl rfl rfl rfl (by intro hg; have hg0 := hg; (try simp only [Bool.or_eq_true, Bool.and_eq_true, Bool.not_eq_true', Bool.not_eq_false', Bool.or_eq_false_iff, Bool.and_eq_false_imp, decide_eq_true_eq, decide_eq_false_iff_not, Bool.not_true, Bool.not_false, beq_iff_eq, Bool.not_eq_true, Bool.not_eq_false, Bool.true_eq_false, Bool.false_eq_true, not_or, Decidable.not_not, ne_eq] at hg); (try simp only [Int.toNat_natCast, dflt_i, dflt_b, dflt_l, dflt_p, Int.toNat_zero, gt_iff_lt, ge_iff_le] at hg); (repeat' apply And.intro); all_goals first | exact hg0 | exact True.intro | rfl | omega | (simp only [inr]; omega) | (simp only [IntKind.bits]; omega) | (simp only [Bool.or_eq_true, Bool.and_eq_true, Bool.not_eq_true', Bool.not_eq_false', Bool.or_eq_false_iff, Bool.and_eq_false_imp, decide_eq_true_eq, decide_eq_false_iff_not, Bool.not_true, Bool.not_false, beq_iff_eq, Bool.not_eq_true, Bool.not_eq_false, Bool.true_eq_false, Bool.false_eq_true, not_or, Decidable.not_not, ne_eq]; omega) | (simp only [inr, Int.toNat_natCast, dflt_i, dflt_b, dflt_l, dflt_p, Int.toNat_zero, gt_iff_lt, ge_iff_le]; omega) | (simp only [Int.toNat_natCast, dflt_i, dflt_b, dflt_l, dflt_p, Int.toNat_zero, gt_iff_lt, ge_iff_le]; omega) | (simp only [Bool.or_eq_true, Bool.and_eq_true, Bool.not_eq_true', Bool.not_eq_false', Bool.or_eq_false_iff, Bool.and_eq_false_imp, decide_eq_true_eq, decide_eq_false_iff_not, Bool.not_true, Bool.not_false, beq_iff_eq, Bool.not_eq_true, Bool.not_eq_false, Bool.true_eq_false, Bool.false_eq_true, not_or, Decidable.not_not, ne_eq] at hg0 ⊢; simp_all; done) | (simp_all; done) | (simp_all; omega)) ?_
  iterate 2 refine stq (m := false) tabok rfl rfl (by (repeat' apply And.intro) <;> first | exact True.intro | rfl | omega | (simp only [inr, IntKind.bits, Int.toNat_natCast, dflt_i, dflt_b, dflt_l, dflt_p, Int.toNat_zero, gt_iff_lt, ge_iff_le, tnat_add, tnat_sub1, tnat_div32, tnat_mod32, ti3, ti4, ti23, ti31, ti34, ti36, ti38, ti44, ti53, ti80]; omega) | exact fun h => h | (intro hq; rw [hq]; rfl) | (simp [SV.cellsL, SV.cells] <;> omega) | (simp_all; done)) ?_
  iterate 5 refine stg (m := false) tabok rfl rfl rfl rfl rfl (by intro hg; have hg0 := hg; (try simp only [Bool.or_eq_true, Bool.and_eq_true, Bool.not_eq_true', Bool.not_eq_false', Bool.or_eq_false_iff, Bool.and_eq_false_imp, decide_eq_true_eq, decide_eq_false_iff_not, Bool.not_true, Bool.not_false, beq_iff_eq, Bool.not_eq_true, Bool.not_eq_false, Bool.true_eq_false, Bool.false_eq_true, not_or, Decidable.not_not, ne_eq] at hg); (try simp only [Int.toNat_natCast, dflt_i, dflt_b, dflt_l, dflt_p, Int.toNat_zero, gt_iff_lt, ge_iff_le] at hg); (repeat' apply And.intro); all_goals first | exact hg0 | exact True.intro | rfl | omega | (simp only [inr]; omega) | (simp only [IntKind.bits]; omega) | (simp only [Bool.or_eq_true, Bool.and_eq_true, Bool.not_eq_true', Bool.not_eq_false', Bool.or_eq_false_iff, Bool.and_eq_false_imp, decide_eq_true_eq, decide_eq_false_iff_not, Bool.not_true, Bool.not_false, beq_iff_eq, Bool.not_eq_true, Bool.not_eq_false, Bool.true_eq_false, Bool.false_eq_true, not_or, Decidable.not_not, ne_eq]; omega) | (simp only [inr, Int.toNat_natCast, dflt_i, dflt_b, dflt_l, dflt_p, Int.toNat_zero, gt_iff_lt, ge_iff_le]; omega) | (simp only [Int.toNat_natCast, dflt_i, dflt_b, dflt_l, dflt_p, Int.toNat_zero, gt_iff_lt, ge_iff_le]; omega) | (simp only [Bool.or_eq_true, Bool.and_eq_true, Bool.not_eq_true', Bool.not_eq_false', Bool.or_eq_false_iff, Bool.and_eq_false_imp, decide_eq_true_eq, decide_eq_false_iff_not, Bool.not_true, Bool.not_false, beq_iff_eq, Bool.not_eq_true, Bool.not_eq_false, Bool.true_eq_false, Bool.false_eq_true, not_or, Decidable.not_not, ne_eq] at hg0 ⊢; simp_all; done) | (simp_all; done) | (simp_all; omega)) ?_
  iterate 2 refine stq (m := false) tabok rfl rfl (by (repeat' apply And.intro) <;> first | exact True.intro | rfl | omega | (simp only [inr, IntKind.bits, Int.toNat_natCast, dflt_i, dflt_b, dflt_l, dflt_p, Int.toNat_zero, gt_iff_lt, ge_iff_le, tnat_add, tnat_sub1, tnat_div32, tnat_mod32, ti3, ti4, ti23, ti31, ti34, ti36, ti38, ti44, ti53, ti80]; omega) | exact fun h => h | (intro hq; rw [hq]; rfl) | (simp [SV.cellsL, SV.cells] <;> omega) | (simp_all; done)) ?_
  iterate 3 refine stg (m := false) tabok rfl rfl rfl rfl rfl (by intro hg; have hg0 := hg; (try simp only [Bool.or_eq_true, Bool.and_eq_true, Bool.not_eq_true', Bool.not_eq_false', Bool.or_eq_false_iff, Bool.and_eq_false_imp, decide_eq_true_eq, decide_eq_false_iff_not, Bool.not_true, Bool.not_false, beq_iff_eq, Bool.not_eq_true, Bool.not_eq_false, Bool.true_eq_false, Bool.false_eq_true, not_or, Decidable.not_not, ne_eq] at hg); (try simp only [Int.toNat_natCast, dflt_i, dflt_b, dflt_l, dflt_p, Int.toNat_zero, gt_iff_lt, ge_iff_le] at hg); (repeat' apply And.intro); all_goals first | exact hg0 | exact True.intro | rfl | omega | (simp only [inr]; omega) | (simp only [IntKind.bits]; omega) | (simp only [Bool.or_eq_true, Bool.and_eq_true, Bool.not_eq_true', Bool.not_eq_false', Bool.or_eq_false_iff, Bool.and_eq_false_imp, decide_eq_true_eq, decide_eq_false_iff_not, Bool.not_true, Bool.not_false, beq_iff_eq, Bool.not_eq_true, Bool.not_eq_false, Bool.true_eq_false, Bool.false_eq_true, not_or, Decidable.not_not, ne_eq]; omega) | (simp only [inr, Int.toNat_natCast, dflt_i, dflt_b, dflt_l, dflt_p, Int.toNat_zero, gt_iff_lt, ge_iff_le]; omega) | (simp only [Int.toNat_natCast, dflt_i, dflt_b, dflt_l, dflt_p, Int.toNat_zero, gt_iff_lt, ge_iff_le]; omega) | (simp only [Bool.or_eq_true, Bool.and_eq_true, Bool.not_eq_true', Bool.not_eq_false', Bool.or_eq_false_iff, Bool.and_eq_false_imp, decide_eq_true_eq, decide_eq_false_iff_not, Bool.not_true, Bool.not_false, beq_iff_eq, Bool.not_eq_true, Bool.not_eq_false, Bool.true_eq_false, Bool.false_eq_true, not_or, Decidable.not_not, ne_eq] at hg0 ⊢; simp_all; done) | (simp_all; done) | (simp_all; omega)) ?_
  iterate 2 refine stq (m := false) tabok rfl rfl (by (repeat' apply And.intro) <;> first | exact True.intro | rfl | omega | (simp only [inr, IntKind.bits, Int.toNat_natCast, dflt_i, dflt_b, dflt_l, dflt_p, Int.toNat_zero, gt_iff_lt, ge_iff_le, tnat_add, tnat_sub1, tnat_div32, tnat_mod32, ti3, ti4, ti23, ti31, ti34, ti36, ti38, ti44, ti53, ti80]; omega) | exact fun h => h | (intro hq; rw [hq]; rfl) | (simp [SV.cellsL, SV.cells] <;> omega) | (simp_all; done)) ?_
  iterate 5 refine stg (m := false) tabok rfl rfl rfl rfl rfl (by intro hg; have hg0 := hg; (try simp only [Bool.or_eq_true, Bool.and_eq_true, Bool.not_eq_true', Bool.not_eq_false', Bool.or_eq_false_iff, Bool.and_eq_false_imp, decide_eq_true_eq, decide_eq_false_iff_not, Bool.not_true, Bool.not_false, beq_iff_eq, Bool.not_eq_true, Bool.not_eq_false, Bool.true_eq_false, Bool.false_eq_true, not_or, Decidable.not_not, ne_eq] at hg); (try simp only [Int.toNat_natCast, dflt_i, dflt_b, dflt_l, dflt_p, Int.toNat_zero, gt_iff_lt, ge_iff_le] at hg); (repeat' apply And.intro); all_goals first | exact hg0 | exact True.intro | rfl | omega | (simp only [inr]; omega) | (simp only [IntKind.bits]; omega) | (simp only [Bool.or_eq_true, Bool.and_eq_true, Bool.not_eq_true', Bool.not_eq_false', Bool.or_eq_false_iff, Bool.and_eq_false_imp, decide_eq_true_eq, decide_eq_false_iff_not, Bool.not_true, Bool.not_false, beq_iff_eq, Bool.not_eq_true, Bool.not_eq_false, Bool.true_eq_false, Bool.false_eq_true, not_or, Decidable.not_not, ne_eq]; omega) | (simp only [inr, Int.toNat_natCast, dflt_i, dflt_b, dflt_l, dflt_p, Int.toNat_zero, gt_iff_lt, ge_iff_le]; omega) | (simp only [Int.toNat_natCast, dflt_i, dflt_b, dflt_l, dflt_p, Int.toNat_zero, gt_iff_lt, ge_iff_le]; omega) | (simp only [Bool.or_eq_true, Bool.and_eq_true, Bool.not_eq_true', Bool.not_eq_false', Bool.or_eq_false_iff, Bool.and_eq_false_imp, decide_eq_true_eq, decide_eq_false_iff_not, Bool.not_true, Bool.not_false, beq_iff_eq, Bool.not_eq_true, Bool.not_eq_false, Bool.true_eq_false, Bool.false_eq_true, not_or, Decidable.not_not, ne_eq] at hg0 ⊢; simp_all; done) | (simp_all; done) | (simp_all; omega)) ?_
  refine stq (m := false) tabok rfl rfl (by (repeat' apply And.intro) <;> first | exact True.intro | rfl | omega | (simp only [inr, IntKind.bits, Int.toNat_natCast, dflt_i, dflt_b, dflt_l, dflt_p, Int.toNat_zero, gt_iff_lt, ge_iff_le, tnat_add, tnat_sub1, tnat_div32, tnat_mod32, ti3, ti4, ti23, ti31, ti34, ti36, ti38, ti44, ti53, ti80]; omega) | exact fun h => h | (intro hq; rw [hq]; rfl) | (simp [SV.cellsL, SV.cells] <;> omega) | (simp_all; done)) ?_
  refine ops_nil ?_
  refine aw_if rfl (fun c1 => ?_) (fun c1 => ?_)
  · try simp only [Bool.or_eq_true, Bool.and_eq_true, Bool.not_eq_true', Bool.not_eq_false', Bool.or_eq_false_iff, Bool.and_eq_false_imp, decide_eq_true_eq, decide_eq_false_iff_not, Bool.not_true, Bool.not_false, beq_iff_eq, Bool.not_eq_true, Bool.not_eq_false, Bool.true_eq_false, Bool.false_eq_true, not_or, Decidable.not_not, ne_eq] at c1
    try simp only [Int.toNat_natCast, dflt_i, dflt_b, dflt_l, dflt_p, Int.toNat_zero, gt_iff_lt, ge_iff_le] at c1
    refine aw_seq ?_
    refine aw_reg _ (by kernel_rfl) rfl ?_
    refine sc (alive_ok) rfl rfl (by kernel_rfl) rfl (by kernel_rfl) .nil ?_
    refine zst tabok rfl rfl rfl ?_
    refine ops_nil ?_
    refine aw_ret ?_
    -- leaf ret.1t
    refine ret_c ?_
    exact fs_eq rfl rfl
  · try simp only [Bool.or_eq_true, Bool.and_eq_true, Bool.not_eq_true', Bool.not_eq_false', Bool.or_eq_false_iff, Bool.and_eq_false_imp, decide_eq_true_eq, decide_eq_false_iff_not, Bool.not_true, Bool.not_false, beq_iff_eq, Bool.not_eq_true, Bool.not_eq_false, Bool.true_eq_false, Bool.false_eq_true, not_or, Decidable.not_not, ne_eq] at c1
    try simp only [Int.toNat_natCast, dflt_i, dflt_b, dflt_l, dflt_p, Int.toNat_zero, gt_iff_lt, ge_iff_le] at c1
    obtain ⟨z1, z1'⟩ := check_zero2 (n := n) (c := c) (lot := L) (by omega)
    have p1 : 0 < chI L n := chI_pos (by omega)
    obtain ⟨N, rfl⟩ := Int.eq_ofNat_of_zero_le (show 0 ≤ n by omega)
    obtain ⟨D, rfl⟩ := Int.eq_ofNat_of_zero_le (show 0 ≤ d by omega)
    obtain ⟨l, rfl⟩ := Int.eq_ofNat_of_zero_le (show 0 ≤ L by omega)
    obtain ⟨F, rfl⟩ := Int.eq_ofNat_of_zero_le (show 0 ≤ f by omega)
    have hck : checkS N c l = 0 := by omega
    have eE : exE N c l D F = 0 := exE_zero hck (by omega) (by omega) (by omega) (by omega)
    have mE := ex_md (n := N) (lot := l) (d := D) (f := F) (by omega) (by omega)
    have hp : 2 ^ l ≤ 1024 := Nat.le_trans (Nat.pow_le_pow_right (by decide) (show l ≤ 10 by omega)) (by decide)
    have hpi : (2 : Int) ^ l = ((2 ^ l : Nat) : Int) := by rw [Int.natCast_pow]; rfl
    have hp0 : 0 < 2 ^ l := Nat.two_pow_pos l
    refine aw_skip ?_
    refine aw_seq ?_
    refine aw_reg _ (by kernel_rfl) rfl ?_
    iterate 2 refine zst tabok rfl rfl rfl ?_
    refine ops_nil ?_
    refine aw_seq ?_
    refine aw_seq ?_
    refine aw_reg _ (by kernel_rfl) rfl ?_
    refine zst tabok rfl rfl rfl ?_
    refine ops_nil ?_
    refine aw_block ?_
    refine aw_loop (X := (Nat)) (fun (m : Nat) => outT (look [(2, .ptr 0 0 0), (3, .ptr 1 0 0), (5, .int .i64 (sumN (fun i => ind (onesN i l = N)) m : Nat)), (6, .int .i64 (sumN (fun i => ind (onesN i l = N ∧ onesN i D = F)) m : Nat)), (7, .int .u64 (m : Int))])) (fun (m : Nat) => outS [.obj 0 23 0 [.int .i64 (N : Int), .int .i64 c], .obj 0 31 0 [.int .i64 (l : Int), .int .i64 (D : Int), .int .i64 (F : Int)]]) (fun (m : Nat) => (m ≤ 2 ^ l)) (fun (m : Nat) => 2 ^ l - m) (0) ?_ ?_ ?_
    -- leaf L0:entry.1f
    · exact (by refine goes_to (tm := _) (st := _) [true, true] rfl rfl ⟨?_, ?_, True.intro⟩ ⟨?_, ?_, ?_, ?_, ?_, True.intro⟩ <;> first | rfl | exact q_lst (by simp) | exact q_grow (by simp) | exact sk rfl rfl | exact sk (q_int (by omega)) rfl | exact sk (q_bool (by simp)) rfl | exact sk (q_view rfl rfl rfl (by omega)) rfl | exact sk (q_gview rfl (by simp)) rfl | exact sk (q_nil rfl) rfl | exact sk (q_row (by simp)) rfl | exact sk_g rfl rfl rfl rfl | exact sk_v rfl rfl rfl rfl rfl | exact sk_n rfl)
    · first | omega | assumption | simp
    · skip
      rintro m hm
      change awpB _ _ _ _ _ (outT (look [(2, .ptr 0 0 0), (3, .ptr 1 0 0), (5, .int .i64 (sumN (fun i => ind (onesN i l = N)) m : Nat)), (6, .int .i64 (sumN (fun i => ind (onesN i l = N ∧ onesN i D = F)) m : Nat)), (7, .int .u64 (m : Int))])) (outS [.obj 0 23 0 [.int .i64 (N : Int), .int .i64 c], .obj 0 31 0 [.int .i64 (l : Int), .int .i64 (D : Int), .int .i64 (F : Int)]])
      have s1 := sumN_ind (fun i => onesN i l = N) m
      have s2 := sumN_ind (fun i => onesN i l = N ∧ onesN i D = F) m
      refine aw_seq ?_
      refine aw_seq ?_
      refine aw_reg _ (by kernel_rfl) rfl ?_
      iterate 4 refine stq (m := false) tabok rfl rfl (by (repeat' apply And.intro) <;> first | exact True.intro | rfl | omega | (simp only [inr, IntKind.bits, Int.toNat_natCast, dflt_i, dflt_b, dflt_l, dflt_p, Int.toNat_zero, gt_iff_lt, ge_iff_le, tnat_add, tnat_sub1, tnat_div32, tnat_mod32, ti3, ti4, ti23, ti31, ti34, ti36, ti38, ti44, ti53, ti80]; omega) | exact fun h => h | (intro hq; rw [hq]; rfl) | (simp [SV.cellsL, SV.cells] <;> omega) | (simp_all; done)) ?_
      refine st (m := false) tabok rfl rfl rfl (by exact ⟨by omega, by show (l : Int) ≤ 64; omega, by show inr .u64 (1 * 2 ^ (l : Int).toNat); rw [Int.toNat_natCast, Int.one_mul, hpi]; simp only [inr]; omega⟩) ?_
      refine zst tabok rfl rfl rfl ?_
      refine ops_nil ?_
      refine aw_if rfl (fun c5 => ?_) (fun c5 => ?_)
      · try simp only [Bool.or_eq_true, Bool.and_eq_true, Bool.not_eq_true', Bool.not_eq_false', Bool.or_eq_false_iff, Bool.and_eq_false_imp, decide_eq_true_eq, decide_eq_false_iff_not, Bool.not_true, Bool.not_false, beq_iff_eq, Bool.not_eq_true, Bool.not_eq_false, Bool.true_eq_false, Bool.false_eq_true, not_or, Decidable.not_not, ne_eq] at c5
        try simp only [Int.toNat_natCast, dflt_i, dflt_b, dflt_l, dflt_p, Int.toNat_zero, gt_iff_lt, ge_iff_le] at c5
        have hlt : m < 2 ^ l := by have h : (m : Int) < 1 * 2 ^ (l : Int).toNat := c5; rw [Int.toNat_natCast, Int.one_mul, hpi] at h; omega
        have t1 : sumN (fun i => ind (onesN i l = N)) (m + 1) = sumN (fun i => ind (onesN i l = N)) m + ind (onesN m l = N) := rfl
        have t2 : sumN (fun i => ind (onesN i l = N ∧ onesN i D = F)) (m + 1) = sumN (fun i => ind (onesN i l = N ∧ onesN i D = F)) m + ind (onesN m l = N ∧ onesN m D = F) := rfl
        refine aw_skip ?_
        refine aw_seq ?_
        refine aw_block ?_
        refine aw_seq ?_
        refine aw_seq ?_
        refine aw_regD true _ (by kernel_rfl) (by kernel_rfl) (by kernel_rfl) rfl ?_
        iterate 3 refine sdq (m := false) tabok rfl rfl (by (repeat' apply And.intro) <;> first | exact True.intro | rfl | omega | (simp only [inr, IntKind.bits, Int.toNat_natCast, dflt_i, dflt_b, dflt_l, dflt_p, Int.toNat_zero, gt_iff_lt, ge_iff_le, tnat_add, tnat_sub1, tnat_div32, tnat_mod32, ti3, ti4, ti23, ti31, ti34, ti36, ti38, ti44, ti53, ti80]; omega) | exact fun h => h | (intro hq; rw [hq]; rfl) | (simp [SV.cellsL, SV.cells] <;> omega) | (simp_all; done)) ?_
        refine sdc (ones_ok m l (by omega) (by omega)) rfl rfl rfl (by kernel_rfl) (.cons (by first | exact argw_same | exact argw_nil | exact argw_tt | exact argw_ff | exact argw_eq rfl) (.cons (by first | exact argw_same | exact argw_nil | exact argw_tt | exact argw_ff | exact argw_eq rfl) .nil)) ?_
        iterate 3 refine sdq (m := false) tabok rfl rfl (by (repeat' apply And.intro) <;> first | exact True.intro | rfl | omega | (simp only [inr, IntKind.bits, Int.toNat_natCast, dflt_i, dflt_b, dflt_l, dflt_p, Int.toNat_zero, gt_iff_lt, ge_iff_le, tnat_add, tnat_sub1, tnat_div32, tnat_mod32, ti3, ti4, ti23, ti31, ti34, ti36, ti38, ti44, ti53, ti80]; omega) | exact fun h => h | (intro hq; rw [hq]; rfl) | (simp [SV.cellsL, SV.cells] <;> omega) | (simp_all; done)) ?_
        refine opd_nil ?_
        refine aw_if rfl (fun c7 => ?_) (fun c7 => ?_)
        · try simp only [Bool.or_eq_true, Bool.and_eq_true, Bool.not_eq_true', Bool.not_eq_false', Bool.or_eq_false_iff, Bool.and_eq_false_imp, decide_eq_true_eq, decide_eq_false_iff_not, Bool.not_true, Bool.not_false, beq_iff_eq, Bool.not_eq_true, Bool.not_eq_false, Bool.true_eq_false, Bool.false_eq_true, not_or, Decidable.not_not, ne_eq] at c7
          try simp only [Int.toNat_natCast, dflt_i, dflt_b, dflt_l, dflt_p, Int.toNat_zero, gt_iff_lt, ge_iff_le] at c7
          refine aw_exit ?_
          refine aw_reg _ (by kernel_rfl) rfl ?_
          iterate 3 refine stq (m := false) tabok rfl rfl (by (repeat' apply And.intro) <;> first | exact True.intro | rfl | omega | (simp only [inr, IntKind.bits, Int.toNat_natCast, dflt_i, dflt_b, dflt_l, dflt_p, Int.toNat_zero, gt_iff_lt, ge_iff_le, tnat_add, tnat_sub1, tnat_div32, tnat_mod32, ti3, ti4, ti23, ti31, ti34, ti36, ti38, ti44, ti53, ti80]; omega) | exact fun h => h | (intro hq; rw [hq]; rfl) | (simp [SV.cellsL, SV.cells] <;> omega) | (simp_all; done)) ?_
          refine ops_nil ?_
          -- leaf L0.5t.7t
          refine Exists.intro (m + 1) ⟨?_, ?_, ?_⟩
          · exact (by refine goes_to (tm := _) (st := _) [true, true] rfl rfl ⟨?_, ?_, True.intro⟩ ⟨?_, ?_, (by refine sk ?_ rfl; exact q_int (by rw [t1, ind, if_neg (by omega)]; simp)), (by refine sk ?_ rfl; exact q_int (by rw [t2, ind, if_neg (by omega)]; simp)), ?_, True.intro⟩ <;> first | rfl | exact q_lst (by simp) | exact q_grow (by simp) | exact sk rfl rfl | exact sk (q_int (by omega)) rfl | exact sk (q_bool (by simp)) rfl | exact sk (q_view rfl rfl rfl (by omega)) rfl | exact sk (q_gview rfl (by simp)) rfl | exact sk (q_nil rfl) rfl | exact sk (q_row (by simp)) rfl | exact sk_g rfl rfl rfl rfl | exact sk_v rfl rfl rfl rfl rfl | exact sk_n rfl)
          · try dsimp only
            first | omega | assumption | simp
          · (try dsimp only); omega
        · try simp only [Bool.or_eq_true, Bool.and_eq_true, Bool.not_eq_true', Bool.not_eq_false', Bool.or_eq_false_iff, Bool.and_eq_false_imp, decide_eq_true_eq, decide_eq_false_iff_not, Bool.not_true, Bool.not_false, beq_iff_eq, Bool.not_eq_true, Bool.not_eq_false, Bool.true_eq_false, Bool.false_eq_true, not_or, Decidable.not_not, ne_eq] at c7
          try simp only [Int.toNat_natCast, dflt_i, dflt_b, dflt_l, dflt_p, Int.toNat_zero, gt_iff_lt, ge_iff_le] at c7
          refine aw_skip ?_
          refine aw_seq ?_
          refine aw_reg _ (by kernel_rfl) rfl ?_
          iterate 3 refine stq (m := false) tabok rfl rfl (by (repeat' apply And.intro) <;> first | exact True.intro | rfl | omega | (simp only [inr, IntKind.bits, Int.toNat_natCast, dflt_i, dflt_b, dflt_l, dflt_p, Int.toNat_zero, gt_iff_lt, ge_iff_le, tnat_add, tnat_sub1, tnat_div32, tnat_mod32, ti3, ti4, ti23, ti31, ti34, ti36, ti38, ti44, ti53, ti80]; omega) | exact fun h => h | (intro hq; rw [hq]; rfl) | (simp [SV.cellsL, SV.cells] <;> omega) | (simp_all; done)) ?_
          refine ops_nil ?_
          refine aw_seq ?_
          refine aw_regD true _ (by kernel_rfl) (by kernel_rfl) (by kernel_rfl) rfl ?_
          iterate 3 refine sdq (m := false) tabok rfl rfl (by (repeat' apply And.intro) <;> first | exact True.intro | rfl | omega | (simp only [inr, IntKind.bits, Int.toNat_natCast, dflt_i, dflt_b, dflt_l, dflt_p, Int.toNat_zero, gt_iff_lt, ge_iff_le, tnat_add, tnat_sub1, tnat_div32, tnat_mod32, ti3, ti4, ti23, ti31, ti34, ti36, ti38, ti44, ti53, ti80]; omega) | exact fun h => h | (intro hq; rw [hq]; rfl) | (simp [SV.cellsL, SV.cells] <;> omega) | (simp_all; done)) ?_
          refine sdc (ones_ok m D (by omega) (by omega)) rfl rfl rfl (by kernel_rfl) (.cons (by first | exact argw_same | exact argw_nil | exact argw_tt | exact argw_ff | exact argw_eq rfl) (.cons (by first | exact argw_same | exact argw_nil | exact argw_tt | exact argw_ff | exact argw_eq rfl) .nil)) ?_
          iterate 3 refine sdq (m := false) tabok rfl rfl (by (repeat' apply And.intro) <;> first | exact True.intro | rfl | omega | (simp only [inr, IntKind.bits, Int.toNat_natCast, dflt_i, dflt_b, dflt_l, dflt_p, Int.toNat_zero, gt_iff_lt, ge_iff_le, tnat_add, tnat_sub1, tnat_div32, tnat_mod32, ti3, ti4, ti23, ti31, ti34, ti36, ti38, ti44, ti53, ti80]; omega) | exact fun h => h | (intro hq; rw [hq]; rfl) | (simp [SV.cellsL, SV.cells] <;> omega) | (simp_all; done)) ?_
          refine opd_nil ?_
          refine aw_if rfl (fun c9 => ?_) (fun c9 => ?_)
          · try simp only [Bool.or_eq_true, Bool.and_eq_true, Bool.not_eq_true', Bool.not_eq_false', Bool.or_eq_false_iff, Bool.and_eq_false_imp, decide_eq_true_eq, decide_eq_false_iff_not, Bool.not_true, Bool.not_false, beq_iff_eq, Bool.not_eq_true, Bool.not_eq_false, Bool.true_eq_false, Bool.false_eq_true, not_or, Decidable.not_not, ne_eq] at c9
            try simp only [Int.toNat_natCast, dflt_i, dflt_b, dflt_l, dflt_p, Int.toNat_zero, gt_iff_lt, ge_iff_le] at c9
            refine aw_reg _ (by kernel_rfl) rfl ?_
            iterate 3 refine stq (m := false) tabok rfl rfl (by (repeat' apply And.intro) <;> first | exact True.intro | rfl | omega | (simp only [inr, IntKind.bits, Int.toNat_natCast, dflt_i, dflt_b, dflt_l, dflt_p, Int.toNat_zero, gt_iff_lt, ge_iff_le, tnat_add, tnat_sub1, tnat_div32, tnat_mod32, ti3, ti4, ti23, ti31, ti34, ti36, ti38, ti44, ti53, ti80]; omega) | exact fun h => h | (intro hq; rw [hq]; rfl) | (simp [SV.cellsL, SV.cells] <;> omega) | (simp_all; done)) ?_
            refine ops_nil ?_
            refine aw_reg _ (by kernel_rfl) rfl ?_
            iterate 3 refine stq (m := false) tabok rfl rfl (by (repeat' apply And.intro) <;> first | exact True.intro | rfl | omega | (simp only [inr, IntKind.bits, Int.toNat_natCast, dflt_i, dflt_b, dflt_l, dflt_p, Int.toNat_zero, gt_iff_lt, ge_iff_le, tnat_add, tnat_sub1, tnat_div32, tnat_mod32, ti3, ti4, ti23, ti31, ti34, ti36, ti38, ti44, ti53, ti80]; omega) | exact fun h => h | (intro hq; rw [hq]; rfl) | (simp [SV.cellsL, SV.cells] <;> omega) | (simp_all; done)) ?_
            refine ops_nil ?_
            -- leaf L0.5t.7f.9t
            refine Exists.intro (m + 1) ⟨?_, ?_, ?_⟩
            · exact (by refine goes_to (tm := _) (st := _) [true, true] rfl rfl ⟨?_, ?_, True.intro⟩ ⟨?_, ?_, (by refine sk ?_ rfl; exact q_int (by rw [t1, ind, if_pos (by omega)]; simp)), (by refine sk ?_ rfl; exact q_int (by rw [t2, ind, if_pos (by omega)]; simp)), ?_, True.intro⟩ <;> first | rfl | exact q_lst (by simp) | exact q_grow (by simp) | exact sk rfl rfl | exact sk (q_int (by omega)) rfl | exact sk (q_bool (by simp)) rfl | exact sk (q_view rfl rfl rfl (by omega)) rfl | exact sk (q_gview rfl (by simp)) rfl | exact sk (q_nil rfl) rfl | exact sk (q_row (by simp)) rfl | exact sk_g rfl rfl rfl rfl | exact sk_v rfl rfl rfl rfl rfl | exact sk_n rfl)
            · try dsimp only
              first | omega | assumption | simp
            · (try dsimp only); omega
          · try simp only [Bool.or_eq_true, Bool.and_eq_true, Bool.not_eq_true', Bool.not_eq_false', Bool.or_eq_false_iff, Bool.and_eq_false_imp, decide_eq_true_eq, decide_eq_false_iff_not, Bool.not_true, Bool.not_false, beq_iff_eq, Bool.not_eq_true, Bool.not_eq_false, Bool.true_eq_false, Bool.false_eq_true, not_or, Decidable.not_not, ne_eq] at c9
            try simp only [Int.toNat_natCast, dflt_i, dflt_b, dflt_l, dflt_p, Int.toNat_zero, gt_iff_lt, ge_iff_le] at c9
            refine aw_skip ?_
            refine aw_reg _ (by kernel_rfl) rfl ?_
            iterate 3 refine stq (m := false) tabok rfl rfl (by (repeat' apply And.intro) <;> first | exact True.intro | rfl | omega | (simp only [inr, IntKind.bits, Int.toNat_natCast, dflt_i, dflt_b, dflt_l, dflt_p, Int.toNat_zero, gt_iff_lt, ge_iff_le, tnat_add, tnat_sub1, tnat_div32, tnat_mod32, ti3, ti4, ti23, ti31, ti34, ti36, ti38, ti44, ti53, ti80]; omega) | exact fun h => h | (intro hq; rw [hq]; rfl) | (simp [SV.cellsL, SV.cells] <;> omega) | (simp_all; done)) ?_
            refine ops_nil ?_
            -- leaf L0.5t.7f.9f
            refine Exists.intro (m + 1) ⟨?_, ?_, ?_⟩
            · exact (by refine goes_to (tm := _) (st := _) [true, true] rfl rfl ⟨?_, ?_, True.intro⟩ ⟨?_, ?_, (by refine sk ?_ rfl; exact q_int (by rw [t1, ind, if_pos (by omega)]; simp)), (by refine sk ?_ rfl; exact q_int (by rw [t2, ind, if_neg (by omega)]; simp)), ?_, True.intro⟩ <;> first | rfl | exact q_lst (by simp) | exact q_grow (by simp) | exact sk rfl rfl | exact sk (q_int (by omega)) rfl | exact sk (q_bool (by simp)) rfl | exact sk (q_view rfl rfl rfl (by omega)) rfl | exact sk (q_gview rfl (by simp)) rfl | exact sk (q_nil rfl) rfl | exact sk (q_row (by simp)) rfl | exact sk_g rfl rfl rfl rfl | exact sk_v rfl rfl rfl rfl rfl | exact sk_n rfl)
            · try dsimp only
              first | omega | assumption | simp
            · (try dsimp only); omega
      · try simp only [Bool.or_eq_true, Bool.and_eq_true, Bool.not_eq_true', Bool.not_eq_false', Bool.or_eq_false_iff, Bool.and_eq_false_imp, decide_eq_true_eq, decide_eq_false_iff_not, Bool.not_true, Bool.not_false, beq_iff_eq, Bool.not_eq_true, Bool.not_eq_false, Bool.true_eq_false, Bool.false_eq_true, not_or, Decidable.not_not, ne_eq] at c5
        try simp only [Int.toNat_natCast, dflt_i, dflt_b, dflt_l, dflt_p, Int.toNat_zero, gt_iff_lt, ge_iff_le] at c5
        have hem : m = 2 ^ l := by have h : ¬ (m : Int) < 1 * 2 ^ (l : Int).toNat := c5; rw [Int.toNat_natCast, Int.one_mul, hpi] at h; omega
        have w1 : sumN (fun i => ind (onesN i l = N)) m = chI l N := by rw [hem, cnt1, chI_nat]
        have w2 : sumN (fun i => ind (onesN i l = N ∧ onesN i D = F)) m = setsN N l D F := by have h := cnt2 (l - D) D N F; rw [show D + (l - D) = l by omega, if_pos (by omega)] at h; rw [hem, h, setsN_nat (by omega) (by omega)]
        refine aw_exit ?_
        refine aw_seq ?_
        refine aw_reg _ (by kernel_rfl) rfl ?_
        iterate 7 refine stq (m := false) tabok rfl rfl (by (repeat' apply And.intro) <;> first | exact True.intro | rfl | omega | (simp only [inr, IntKind.bits, Int.toNat_natCast, dflt_i, dflt_b, dflt_l, dflt_p, Int.toNat_zero, gt_iff_lt, ge_iff_le, tnat_add, tnat_sub1, tnat_div32, tnat_mod32, ti3, ti4, ti23, ti31, ti34, ti36, ti38, ti44, ti53, ti80]; omega) | exact fun h => h | (intro hq; rw [hq]; rfl) | (simp [SV.cellsL, SV.cells] <;> omega) | (simp_all; done)) ?_
        refine sc (exactly0 N c l D F eE) rfl rfl (by kernel_rfl) rfl (by kernel_rfl) (.cons (by first | exact argw_same | exact argw_nil | exact argw_tt | exact argw_ff | exact argw_eq rfl) (.cons (by first | exact argw_same | exact argw_nil | exact argw_tt | exact argw_ff | exact argw_eq rfl) (.cons (by first | exact argw_same | exact argw_nil | exact argw_tt | exact argw_ff | exact argw_eq rfl) (.cons (by first | exact argw_same | exact argw_nil | exact argw_tt | exact argw_ff | exact argw_eq rfl) .nil)))) ?_
        iterate 6 refine stq (m := false) tabok rfl rfl (by (repeat' apply And.intro) <;> first | exact True.intro | rfl | omega | (simp only [inr, IntKind.bits, Int.toNat_natCast, dflt_i, dflt_b, dflt_l, dflt_p, Int.toNat_zero, gt_iff_lt, ge_iff_le, tnat_add, tnat_sub1, tnat_div32, tnat_mod32, ti3, ti4, ti23, ti31, ti34, ti36, ti38, ti44, ti53, ti80]; omega) | exact fun h => h | (intro hq; rw [hq]; rfl) | (simp [SV.cellsL, SV.cells] <;> omega) | (simp_all; done)) ?_
        refine ops_nil ?_
        refine aw_seq ?_
        refine aw_reg _ (by kernel_rfl) rfl ?_
        iterate 2 refine zst tabok rfl rfl rfl ?_
        refine sc (rof_at (sumN (fun i => ind (onesN i l = N ∧ onesN i D = F)) m : Nat) (sumN (fun i => ind (onesN i l = N)) m : Nat) (setsN N l D F) (chI l N) (by rw [w2]) (by rw [w1]) (by rw [← w2]; omega) (by rw [← w1]; omega) p1) rfl rfl (by kernel_rfl) rfl (by kernel_rfl) (.cons (by first | exact argw_same | exact argw_nil | exact argw_tt | exact argw_ff | exact argw_eq rfl) (.cons (by first | exact argw_same | exact argw_nil | exact argw_tt | exact argw_ff | exact argw_eq rfl) .nil)) ?_
        iterate 6 refine stq (m := false) tabok rfl rfl (by (repeat' apply And.intro) <;> first | exact True.intro | rfl | omega | (simp only [inr, IntKind.bits, Int.toNat_natCast, dflt_i, dflt_b, dflt_l, dflt_p, Int.toNat_zero, gt_iff_lt, ge_iff_le, tnat_add, tnat_sub1, tnat_div32, tnat_mod32, ti3, ti4, ti23, ti31, ti34, ti36, ti38, ti44, ti53, ti80]; omega) | exact fun h => h | (intro hq; rw [hq]; rfl) | (simp [SV.cellsL, SV.cells] <;> omega) | (simp_all; done)) ?_
        refine ops_nil ?_
        refine aw_seq ?_
        refine aw_reg _ (by kernel_rfl) rfl ?_
        iterate 3 refine zst tabok rfl rfl rfl ?_
        refine stg (m := false) tabok rfl rfl rfl rfl rfl (by intro hg; have hg0 := hg; (try simp only [Bool.or_eq_true, Bool.and_eq_true, Bool.not_eq_true', Bool.not_eq_false', Bool.or_eq_false_iff, Bool.and_eq_false_imp, decide_eq_true_eq, decide_eq_false_iff_not, Bool.not_true, Bool.not_false, beq_iff_eq, Bool.not_eq_true, Bool.not_eq_false, Bool.true_eq_false, Bool.false_eq_true, not_or, Decidable.not_not, ne_eq] at hg); (try simp only [Int.toNat_natCast, dflt_i, dflt_b, dflt_l, dflt_p, Int.toNat_zero, gt_iff_lt, ge_iff_le] at hg); (repeat' apply And.intro); all_goals first | exact hg0 | exact True.intro | rfl | omega | (simp only [inr]; omega) | (simp only [IntKind.bits]; omega) | (simp only [Bool.or_eq_true, Bool.and_eq_true, Bool.not_eq_true', Bool.not_eq_false', Bool.or_eq_false_iff, Bool.and_eq_false_imp, decide_eq_true_eq, decide_eq_false_iff_not, Bool.not_true, Bool.not_false, beq_iff_eq, Bool.not_eq_true, Bool.not_eq_false, Bool.true_eq_false, Bool.false_eq_true, not_or, Decidable.not_not, ne_eq]; omega) | (simp only [inr, Int.toNat_natCast, dflt_i, dflt_b, dflt_l, dflt_p, Int.toNat_zero, gt_iff_lt, ge_iff_le]; omega) | (simp only [Int.toNat_natCast, dflt_i, dflt_b, dflt_l, dflt_p, Int.toNat_zero, gt_iff_lt, ge_iff_le]; omega) | (simp only [Bool.or_eq_true, Bool.and_eq_true, Bool.not_eq_true', Bool.not_eq_false', Bool.or_eq_false_iff, Bool.and_eq_false_imp, decide_eq_true_eq, decide_eq_false_iff_not, Bool.not_true, Bool.not_false, beq_iff_eq, Bool.not_eq_true, Bool.not_eq_false, Bool.true_eq_false, Bool.false_eq_true, not_or, Decidable.not_not, ne_eq] at hg0 ⊢; simp_all; done) | (simp_all; done) | (simp_all; omega)) ?_
        iterate 2 refine stq (m := false) tabok rfl rfl (by (repeat' apply And.intro) <;> first | exact True.intro | rfl | omega | (simp only [inr, IntKind.bits, Int.toNat_natCast, dflt_i, dflt_b, dflt_l, dflt_p, Int.toNat_zero, gt_iff_lt, ge_iff_le, tnat_add, tnat_sub1, tnat_div32, tnat_mod32, ti3, ti4, ti23, ti31, ti34, ti36, ti38, ti44, ti53, ti80]; omega) | exact fun h => h | (intro hq; rw [hq]; rfl) | (simp [SV.cellsL, SV.cells] <;> omega) | (simp_all; done)) ?_
        iterate 2 refine stg (m := false) tabok rfl rfl rfl rfl rfl (by intro hg; have hg0 := hg; (try simp only [Bool.or_eq_true, Bool.and_eq_true, Bool.not_eq_true', Bool.not_eq_false', Bool.or_eq_false_iff, Bool.and_eq_false_imp, decide_eq_true_eq, decide_eq_false_iff_not, Bool.not_true, Bool.not_false, beq_iff_eq, Bool.not_eq_true, Bool.not_eq_false, Bool.true_eq_false, Bool.false_eq_true, not_or, Decidable.not_not, ne_eq] at hg); (try simp only [Int.toNat_natCast, dflt_i, dflt_b, dflt_l, dflt_p, Int.toNat_zero, gt_iff_lt, ge_iff_le] at hg); (repeat' apply And.intro); all_goals first | exact hg0 | exact True.intro | rfl | omega | (simp only [inr]; omega) | (simp only [IntKind.bits]; omega) | (simp only [Bool.or_eq_true, Bool.and_eq_true, Bool.not_eq_true', Bool.not_eq_false', Bool.or_eq_false_iff, Bool.and_eq_false_imp, decide_eq_true_eq, decide_eq_false_iff_not, Bool.not_true, Bool.not_false, beq_iff_eq, Bool.not_eq_true, Bool.not_eq_false, Bool.true_eq_false, Bool.false_eq_true, not_or, Decidable.not_not, ne_eq]; omega) | (simp only [inr, Int.toNat_natCast, dflt_i, dflt_b, dflt_l, dflt_p, Int.toNat_zero, gt_iff_lt, ge_iff_le]; omega) | (simp only [Int.toNat_natCast, dflt_i, dflt_b, dflt_l, dflt_p, Int.toNat_zero, gt_iff_lt, ge_iff_le]; omega) | (simp only [Bool.or_eq_true, Bool.and_eq_true, Bool.not_eq_true', Bool.not_eq_false', Bool.or_eq_false_iff, Bool.and_eq_false_imp, decide_eq_true_eq, decide_eq_false_iff_not, Bool.not_true, Bool.not_false, beq_iff_eq, Bool.not_eq_true, Bool.not_eq_false, Bool.true_eq_false, Bool.false_eq_true, not_or, Decidable.not_not, ne_eq] at hg0 ⊢; simp_all; done) | (simp_all; done) | (simp_all; omega)) ?_
        refine scg (fun hg => rcmp_ok (exN N l D F) (exD N l D F) (exN N l D F) (exD N l D F) mE.1 (mE.2 p1) mE.1 (mE.2 p1) (nmD_pos _ _) (nmD_pos _ _)) rfl rfl rfl rfl (by kernel_rfl) rfl (by kernel_rfl) (fun hg => (.cons (by first | exact argw_same | exact argw_nil | exact argw_tt | exact argw_ff | exact argw_eq rfl) (.cons (by first | exact argw_same | exact argw_nil | exact argw_tt | exact argw_ff | exact argw_eq rfl) .nil))) rfl (by intro hg; have hg0 := hg; (try simp only [Bool.or_eq_true, Bool.and_eq_true, Bool.not_eq_true', Bool.not_eq_false', Bool.or_eq_false_iff, Bool.and_eq_false_imp, decide_eq_true_eq, decide_eq_false_iff_not, Bool.not_true, Bool.not_false, beq_iff_eq, Bool.not_eq_true, Bool.not_eq_false, Bool.true_eq_false, Bool.false_eq_true, not_or, Decidable.not_not, ne_eq] at hg); (try simp only [Int.toNat_natCast, dflt_i, dflt_b, dflt_l, dflt_p, Int.toNat_zero, gt_iff_lt, ge_iff_le] at hg); (repeat' apply And.intro); all_goals first | exact hg0 | exact True.intro | rfl | omega | (simp only [inr]; omega) | (simp only [IntKind.bits]; omega) | (simp only [Bool.or_eq_true, Bool.and_eq_true, Bool.not_eq_true', Bool.not_eq_false', Bool.or_eq_false_iff, Bool.and_eq_false_imp, decide_eq_true_eq, decide_eq_false_iff_not, Bool.not_true, Bool.not_false, beq_iff_eq, Bool.not_eq_true, Bool.not_eq_false, Bool.true_eq_false, Bool.false_eq_true, not_or, Decidable.not_not, ne_eq]; omega) | (simp only [inr, Int.toNat_natCast, dflt_i, dflt_b, dflt_l, dflt_p, Int.toNat_zero, gt_iff_lt, ge_iff_le]; omega) | (simp only [Int.toNat_natCast, dflt_i, dflt_b, dflt_l, dflt_p, Int.toNat_zero, gt_iff_lt, ge_iff_le]; omega) | (simp only [Bool.or_eq_true, Bool.and_eq_true, Bool.not_eq_true', Bool.not_eq_false', Bool.or_eq_false_iff, Bool.and_eq_false_imp, decide_eq_true_eq, decide_eq_false_iff_not, Bool.not_true, Bool.not_false, beq_iff_eq, Bool.not_eq_true, Bool.not_eq_false, Bool.true_eq_false, Bool.false_eq_true, not_or, Decidable.not_not, ne_eq] at hg0 ⊢; simp_all; done) | (simp_all; done) | (simp_all; omega)) ?_
        refine stg (m := false) tabok rfl rfl rfl rfl rfl (by intro hg; have hg0 := hg; (try simp only [Bool.or_eq_true, Bool.and_eq_true, Bool.not_eq_true', Bool.not_eq_false', Bool.or_eq_false_iff, Bool.and_eq_false_imp, decide_eq_true_eq, decide_eq_false_iff_not, Bool.not_true, Bool.not_false, beq_iff_eq, Bool.not_eq_true, Bool.not_eq_false, Bool.true_eq_false, Bool.false_eq_true, not_or, Decidable.not_not, ne_eq] at hg); (try simp only [Int.toNat_natCast, dflt_i, dflt_b, dflt_l, dflt_p, Int.toNat_zero, gt_iff_lt, ge_iff_le] at hg); (repeat' apply And.intro); all_goals first | exact hg0 | exact True.intro | rfl | omega | (simp only [inr]; omega) | (simp only [IntKind.bits]; omega) | (simp only [Bool.or_eq_true, Bool.and_eq_true, Bool.not_eq_true', Bool.not_eq_false', Bool.or_eq_false_iff, Bool.and_eq_false_imp, decide_eq_true_eq, decide_eq_false_iff_not, Bool.not_true, Bool.not_false, beq_iff_eq, Bool.not_eq_true, Bool.not_eq_false, Bool.true_eq_false, Bool.false_eq_true, not_or, Decidable.not_not, ne_eq]; omega) | (simp only [inr, Int.toNat_natCast, dflt_i, dflt_b, dflt_l, dflt_p, Int.toNat_zero, gt_iff_lt, ge_iff_le]; omega) | (simp only [Int.toNat_natCast, dflt_i, dflt_b, dflt_l, dflt_p, Int.toNat_zero, gt_iff_lt, ge_iff_le]; omega) | (simp only [Bool.or_eq_true, Bool.and_eq_true, Bool.not_eq_true', Bool.not_eq_false', Bool.or_eq_false_iff, Bool.and_eq_false_imp, decide_eq_true_eq, decide_eq_false_iff_not, Bool.not_true, Bool.not_false, beq_iff_eq, Bool.not_eq_true, Bool.not_eq_false, Bool.true_eq_false, Bool.false_eq_true, not_or, Decidable.not_not, ne_eq] at hg0 ⊢; simp_all; done) | (simp_all; done) | (simp_all; omega)) ?_
        iterate 2 refine stq (m := false) tabok rfl rfl (by (repeat' apply And.intro) <;> first | exact True.intro | rfl | omega | (simp only [inr, IntKind.bits, Int.toNat_natCast, dflt_i, dflt_b, dflt_l, dflt_p, Int.toNat_zero, gt_iff_lt, ge_iff_le, tnat_add, tnat_sub1, tnat_div32, tnat_mod32, ti3, ti4, ti23, ti31, ti34, ti36, ti38, ti44, ti53, ti80]; omega) | exact fun h => h | (intro hq; rw [hq]; rfl) | (simp [SV.cellsL, SV.cells] <;> omega) | (simp_all; done)) ?_
        refine scg (fun hg => alive_ok) rfl rfl rfl rfl (by kernel_rfl) rfl (by kernel_rfl) (fun hg => .nil) rfl (by intro hg; have hg0 := hg; (try simp only [Bool.or_eq_true, Bool.and_eq_true, Bool.not_eq_true', Bool.not_eq_false', Bool.or_eq_false_iff, Bool.and_eq_false_imp, decide_eq_true_eq, decide_eq_false_iff_not, Bool.not_true, Bool.not_false, beq_iff_eq, Bool.not_eq_true, Bool.not_eq_false, Bool.true_eq_false, Bool.false_eq_true, not_or, Decidable.not_not, ne_eq] at hg); (try simp only [Int.toNat_natCast, dflt_i, dflt_b, dflt_l, dflt_p, Int.toNat_zero, gt_iff_lt, ge_iff_le] at hg); (repeat' apply And.intro); all_goals first | exact hg0 | exact True.intro | rfl | omega | (simp only [inr]; omega) | (simp only [IntKind.bits]; omega) | (simp only [Bool.or_eq_true, Bool.and_eq_true, Bool.not_eq_true', Bool.not_eq_false', Bool.or_eq_false_iff, Bool.and_eq_false_imp, decide_eq_true_eq, decide_eq_false_iff_not, Bool.not_true, Bool.not_false, beq_iff_eq, Bool.not_eq_true, Bool.not_eq_false, Bool.true_eq_false, Bool.false_eq_true, not_or, Decidable.not_not, ne_eq]; omega) | (simp only [inr, Int.toNat_natCast, dflt_i, dflt_b, dflt_l, dflt_p, Int.toNat_zero, gt_iff_lt, ge_iff_le]; omega) | (simp only [Int.toNat_natCast, dflt_i, dflt_b, dflt_l, dflt_p, Int.toNat_zero, gt_iff_lt, ge_iff_le]; omega) | (simp only [Bool.or_eq_true, Bool.and_eq_true, Bool.not_eq_true', Bool.not_eq_false', Bool.or_eq_false_iff, Bool.and_eq_false_imp, decide_eq_true_eq, decide_eq_false_iff_not, Bool.not_true, Bool.not_false, beq_iff_eq, Bool.not_eq_true, Bool.not_eq_false, Bool.true_eq_false, Bool.false_eq_true, not_or, Decidable.not_not, ne_eq] at hg0 ⊢; simp_all; done) | (simp_all; done) | (simp_all; omega)) ?_
        iterate 2 refine stq (m := false) tabok rfl rfl (by (repeat' apply And.intro) <;> first | exact True.intro | rfl | omega | (simp only [inr, IntKind.bits, Int.toNat_natCast, dflt_i, dflt_b, dflt_l, dflt_p, Int.toNat_zero, gt_iff_lt, ge_iff_le, tnat_add, tnat_sub1, tnat_div32, tnat_mod32, ti3, ti4, ti23, ti31, ti34, ti36, ti38, ti44, ti53, ti80]; omega) | exact fun h => h | (intro hq; rw [hq]; rfl) | (simp [SV.cellsL, SV.cells] <;> omega) | (simp_all; done)) ?_
        refine ops_nil ?_
        refine aw_ret ?_
        -- leaf ret.5f
        refine ret_c ?_
        exact fs_bool (by rw [cmp_self]; rfl)
theorem counts_law (p : Int × Int) (x : Int × Int × Int) (_ : WfD TPlan p) (_ : WfD TLot x) : CS Try.prog 9 [.agg [.int .i64 p.1, .int .i64 p.2], .agg [.int .i64 x.1, .int .i64 x.2.1, .int .i64 x.2.2]] (.bool true) := counts_ok p.1 p.2 x.1 x.2.1 x.2.2
end Go.Sim
end
