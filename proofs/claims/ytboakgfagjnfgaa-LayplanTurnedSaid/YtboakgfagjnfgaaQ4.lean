/- A part of the proof: the walks of this law's functions, and plain laws. -/
import Derived.Test.YtboakgfagjnfgaaQ3
section
namespace Go.Sim
open Go Go.Proofs
set_option maxRecDepth 10000
set_option autoImplicit false
set_option linter.unusedSimpArgs false
set_option linter.unusedVariables false
abbrev TTask : Ty := .p (.l TI64) (.p TI64 TI64)
abbrev Task := List Int × Int × Int
abbrev taskS (t : Task) : SV := .agg [.row TI64 t.1, .int .i64 t.2.1, .int .i64 t.2.2]
def beforeS : List Int → List Int → Bool
  | x :: a, y :: b => if x = y then beforeS a b else decide (x < y)
  | _, _ => false
theorem before_step {a b : List Int} {i : Nat} (ha : i < a.length) (hb : i < b.length) : beforeS (a.drop i) (b.drop i) = if a.getD i 0 = b.getD i 0 then beforeS (a.drop (i + 1)) (b.drop (i + 1)) else decide (a.getD i 0 < b.getD i 0) := by
  rw [List.drop_eq_getElem_cons ha, List.drop_eq_getElem_cons hb, beforeS]
  simp [List.getD_eq_getElem?_getD, ha, hb]
theorem before_end {a b : List Int} {i : Nat} (h : a.length ≤ i ∨ b.length ≤ i) : beforeS (a.drop i) (b.drop i) = false := by
  rcases h with h | h
  · rw [List.drop_eq_nil_of_le h]; simp [beforeS]
  · rw [List.drop_eq_nil_of_le h]
    cases a.drop i <;> simp [beforeS]
theorem before_ok (a b : List Int) (ha : Big a.length) : CS Try.prog 14 [.row TI64 a, .row TI64 b] (.bool (beforeS a b)) := by
  unfold Big at ha
  refine fn_c [4] Try.func14 Try.ntmps14 rfl rfl rfl rfl ?_
  refine aw_seq ?_
  refine aw_reg _ (by kernel_rfl) rfl ?_
  refine st (m := false) tabok rfl rfl rfl (by (repeat' apply And.intro); all_goals first | exact True.intro | rfl | omega | (simp only [inr]; omega) | (simp only [IntKind.bits]; omega) | exact fun h => h | (intro hq; rw [hq]; rfl) | (simp only [Int.toNat_natCast, dflt_i, dflt_b, dflt_l, dflt_p, Int.toNat_zero, gt_iff_lt, ge_iff_le]; omega) | (simp only [ti3, ti4, ti22, ti41]; omega) | (simp [ti3, ti4, ti22, ti41]; omega) | (simp_all; done) | (simp [SV.cellsL, SV.cells]; done) | (simp [SV.cellsL, SV.cells]; omega)) ?_
  refine ops_nil ?_
  refine aw_seq ?_
  refine aw_seq ?_
  refine aw_reg _ (by kernel_rfl) rfl ?_
  refine st (m := false) tabok rfl rfl rfl (by (repeat' apply And.intro); all_goals first | exact True.intro | rfl | omega | (simp only [inr]; omega) | (simp only [IntKind.bits]; omega) | exact fun h => h | (intro hq; rw [hq]; rfl) | (simp only [Int.toNat_natCast, dflt_i, dflt_b, dflt_l, dflt_p, Int.toNat_zero, gt_iff_lt, ge_iff_le]; omega) | (simp only [ti3, ti4, ti22, ti41]; omega) | (simp [ti3, ti4, ti22, ti41]; omega) | (simp_all; done) | (simp [SV.cellsL, SV.cells]; done) | (simp [SV.cellsL, SV.cells]; omega)) ?_
  refine ops_nil ?_
  refine aw_block ?_
  refine aw_loop (X := (Nat)) (fun (i : Nat) => outT (look [(0, .row TI64 a), (1, .row TI64 b), (5, .int .i64 i)])) (fun (i : Nat) => outS []) (fun (i : Nat) => (i ≤ a.length ∧ i ≤ b.length) ∧ (beforeS a b = beforeS (a.drop i) (b.drop i))) (fun (i : Nat) => a.length - i) (0) ?_ ?_ ?_
  -- leaf L0:entry
  · exact goes_to (tm := _) (st := _) [] rfl rfl True.intro ⟨(by first | exact sk rfl rfl | exact sk (q_int (by omega)) rfl | exact sk (q_bool (by simp)) rfl | exact sk (q_view rfl rfl rfl (by omega)) rfl | exact sk (q_gview rfl (by simp)) rfl | exact sk (q_nil rfl) rfl | exact sk (q_row (by simp)) rfl | exact sk_g rfl rfl rfl rfl | exact sk_v rfl rfl rfl rfl rfl | exact sk_n rfl), (by first | exact sk rfl rfl | exact sk (q_int (by omega)) rfl | exact sk (q_bool (by simp)) rfl | exact sk (q_view rfl rfl rfl (by omega)) rfl | exact sk (q_gview rfl (by simp)) rfl | exact sk (q_nil rfl) rfl | exact sk (q_row (by simp)) rfl | exact sk_g rfl rfl rfl rfl | exact sk_v rfl rfl rfl rfl rfl | exact sk_n rfl), (by first | exact sk rfl rfl | exact sk (q_int (by omega)) rfl | exact sk (q_bool (by simp)) rfl | exact sk (q_view rfl rfl rfl (by omega)) rfl | exact sk (q_gview rfl (by simp)) rfl | exact sk (q_nil rfl) rfl | exact sk (q_row (by simp)) rfl | exact sk_g rfl rfl rfl rfl | exact sk_v rfl rfl rfl rfl rfl | exact sk_n rfl), True.intro⟩
  · exact ⟨by omega, rfl⟩
  · skip
    rintro i ⟨hi, hb⟩
    change awpB _ _ _ _ _ (outT (look [(0, .row TI64 a), (1, .row TI64 b), (5, .int .i64 i)])) (outS [])
    refine aw_seq ?_
    refine aw_seq ?_
    refine aw_reg _ (by kernel_rfl) rfl ?_
    iterate 5 refine st (m := false) tabok rfl rfl rfl (by (repeat' apply And.intro); all_goals first | exact True.intro | rfl | omega | (simp only [inr]; omega) | (simp only [IntKind.bits]; omega) | exact fun h => h | (intro hq; rw [hq]; rfl) | (simp only [Int.toNat_natCast, dflt_i, dflt_b, dflt_l, dflt_p, Int.toNat_zero, gt_iff_lt, ge_iff_le]; omega) | (simp only [ti3, ti4, ti22, ti41]; omega) | (simp [ti3, ti4, ti22, ti41]; omega) | (simp_all; done) | (simp [SV.cellsL, SV.cells]; done) | (simp [SV.cellsL, SV.cells]; omega)) ?_
    iterate 4 refine stg (m := false) tabok rfl rfl rfl rfl rfl (by intro hg; have hg0 := hg; (try simp only [Bool.or_eq_true, Bool.and_eq_true, Bool.not_eq_true', Bool.not_eq_false', Bool.or_eq_false_iff, Bool.and_eq_false_imp, decide_eq_true_eq, decide_eq_false_iff_not, Bool.not_true, Bool.not_false, beq_iff_eq, Bool.not_eq_true, Bool.not_eq_false, Bool.true_eq_false, Bool.false_eq_true, not_or, Decidable.not_not, ne_eq] at hg); (try simp only [Int.toNat_natCast, dflt_i, dflt_b, dflt_l, dflt_p, Int.toNat_zero, gt_iff_lt, ge_iff_le] at hg); (repeat' apply And.intro); all_goals first | exact hg0 | exact True.intro | rfl | omega | (simp only [inr]; omega) | (simp only [IntKind.bits]; omega) | (simp only [Bool.or_eq_true, Bool.and_eq_true, Bool.not_eq_true', Bool.not_eq_false', Bool.or_eq_false_iff, Bool.and_eq_false_imp, decide_eq_true_eq, decide_eq_false_iff_not, Bool.not_true, Bool.not_false, beq_iff_eq, Bool.not_eq_true, Bool.not_eq_false, Bool.true_eq_false, Bool.false_eq_true, not_or, Decidable.not_not, ne_eq]; omega) | (simp only [inr, Int.toNat_natCast, dflt_i, dflt_b, dflt_l, dflt_p, Int.toNat_zero, gt_iff_lt, ge_iff_le]; omega) | (simp only [Int.toNat_natCast, dflt_i, dflt_b, dflt_l, dflt_p, Int.toNat_zero, gt_iff_lt, ge_iff_le]; omega) | (simp only [Bool.or_eq_true, Bool.and_eq_true, Bool.not_eq_true', Bool.not_eq_false', Bool.or_eq_false_iff, Bool.and_eq_false_imp, decide_eq_true_eq, decide_eq_false_iff_not, Bool.not_true, Bool.not_false, beq_iff_eq, Bool.not_eq_true, Bool.not_eq_false, Bool.true_eq_false, Bool.false_eq_true, not_or, Decidable.not_not, ne_eq] at hg0 ⊢; simp_all; done) | (simp_all; done) | (simp_all; omega)) ?_
    refine st (m := false) tabok rfl rfl rfl (by (repeat' apply And.intro); all_goals first | exact True.intro | rfl | omega | (simp only [inr]; omega) | (simp only [IntKind.bits]; omega) | exact fun h => h | (intro hq; rw [hq]; rfl) | (simp only [Int.toNat_natCast, dflt_i, dflt_b, dflt_l, dflt_p, Int.toNat_zero, gt_iff_lt, ge_iff_le]; omega) | (simp only [ti3, ti4, ti22, ti41]; omega) | (simp [ti3, ti4, ti22, ti41]; omega) | (simp_all; done) | (simp [SV.cellsL, SV.cells]; done) | (simp [SV.cellsL, SV.cells]; omega)) ?_
    refine ops_nil ?_
    refine aw_if rfl (fun c2 => ?_) (fun c2 => ?_)
    · try simp only [Bool.or_eq_true, Bool.and_eq_true, Bool.not_eq_true', Bool.not_eq_false', Bool.or_eq_false_iff, Bool.and_eq_false_imp, decide_eq_true_eq, decide_eq_false_iff_not, Bool.not_true, Bool.not_false, beq_iff_eq, Bool.not_eq_true, Bool.not_eq_false, Bool.true_eq_false, Bool.false_eq_true, not_or, Decidable.not_not, ne_eq] at c2
      try simp only [Int.toNat_natCast, dflt_i, dflt_b, dflt_l, dflt_p, Int.toNat_zero, gt_iff_lt, ge_iff_le] at c2
      refine aw_skip ?_
      refine aw_seq ?_
      refine aw_block ?_
      refine aw_seq ?_
      refine aw_regD true _ (by kernel_rfl) (by kernel_rfl) (by kernel_rfl) rfl ?_
      iterate 9 refine sd (m := false) tabok rfl rfl rfl (by (repeat' apply And.intro); all_goals first | exact True.intro | rfl | omega | (simp only [inr]; omega) | (simp only [IntKind.bits]; omega) | exact fun h => h | (intro hq; rw [hq]; rfl) | (simp only [Int.toNat_natCast, dflt_i, dflt_b, dflt_l, dflt_p, Int.toNat_zero, gt_iff_lt, ge_iff_le]; omega) | (simp only [ti3, ti4, ti22, ti41]; omega) | (simp [ti3, ti4, ti22, ti41]; omega) | (simp_all; done) | (simp [SV.cellsL, SV.cells]; done) | (simp [SV.cellsL, SV.cells]; omega)) ?_
      refine opd_nil ?_
      refine aw_if rfl (fun c4 => ?_) (fun c4 => ?_)
      · try simp only [Bool.or_eq_true, Bool.and_eq_true, Bool.not_eq_true', Bool.not_eq_false', Bool.or_eq_false_iff, Bool.and_eq_false_imp, decide_eq_true_eq, decide_eq_false_iff_not, Bool.not_true, Bool.not_false, beq_iff_eq, Bool.not_eq_true, Bool.not_eq_false, Bool.true_eq_false, Bool.false_eq_true, not_or, Decidable.not_not, ne_eq] at c4
        try simp only [Int.toNat_natCast, dflt_i, dflt_b, dflt_l, dflt_p, Int.toNat_zero, gt_iff_lt, ge_iff_le] at c4
        refine aw_seq ?_
        refine aw_regD true _ (by kernel_rfl) (by kernel_rfl) (by kernel_rfl) rfl ?_
        iterate 10 refine sd (m := false) tabok rfl rfl rfl (by (repeat' apply And.intro); all_goals first | exact True.intro | rfl | omega | (simp only [inr]; omega) | (simp only [IntKind.bits]; omega) | exact fun h => h | (intro hq; rw [hq]; rfl) | (simp only [Int.toNat_natCast, dflt_i, dflt_b, dflt_l, dflt_p, Int.toNat_zero, gt_iff_lt, ge_iff_le]; omega) | (simp only [ti3, ti4, ti22, ti41]; omega) | (simp [ti3, ti4, ti22, ti41]; omega) | (simp_all; done) | (simp [SV.cellsL, SV.cells]; done) | (simp [SV.cellsL, SV.cells]; omega)) ?_
        refine opd_nil ?_
        refine aw_ret ?_
        -- leaf ret.2t.4t
        refine ret_c ?_
        refine fs_bool ?_
        rw [hb, before_step (by omega) (by omega), if_neg (by omega)]
        rfl
      · try simp only [Bool.or_eq_true, Bool.and_eq_true, Bool.not_eq_true', Bool.not_eq_false', Bool.or_eq_false_iff, Bool.and_eq_false_imp, decide_eq_true_eq, decide_eq_false_iff_not, Bool.not_true, Bool.not_false, beq_iff_eq, Bool.not_eq_true, Bool.not_eq_false, Bool.true_eq_false, Bool.false_eq_true, not_or, Decidable.not_not, ne_eq] at c4
        try simp only [Int.toNat_natCast, dflt_i, dflt_b, dflt_l, dflt_p, Int.toNat_zero, gt_iff_lt, ge_iff_le] at c4
        refine aw_skip ?_
        refine aw_reg _ (by kernel_rfl) rfl ?_
        iterate 3 refine st (m := false) tabok rfl rfl rfl (by (repeat' apply And.intro); all_goals first | exact True.intro | rfl | omega | (simp only [inr]; omega) | (simp only [IntKind.bits]; omega) | exact fun h => h | (intro hq; rw [hq]; rfl) | (simp only [Int.toNat_natCast, dflt_i, dflt_b, dflt_l, dflt_p, Int.toNat_zero, gt_iff_lt, ge_iff_le]; omega) | (simp only [ti3, ti4, ti22, ti41]; omega) | (simp [ti3, ti4, ti22, ti41]; omega) | (simp_all; done) | (simp [SV.cellsL, SV.cells]; done) | (simp [SV.cellsL, SV.cells]; omega)) ?_
        refine ops_nil ?_
        -- leaf L0.2t.4f
        refine Exists.intro (i + 1) ⟨?_, ?_, ?_⟩
        · exact goes_to (tm := _) (st := _) [] rfl rfl True.intro ⟨(by first | exact sk rfl rfl | exact sk (q_int (by omega)) rfl | exact sk (q_bool (by simp)) rfl | exact sk (q_view rfl rfl rfl (by omega)) rfl | exact sk (q_gview rfl (by simp)) rfl | exact sk (q_nil rfl) rfl | exact sk (q_row (by simp)) rfl | exact sk_g rfl rfl rfl rfl | exact sk_v rfl rfl rfl rfl rfl | exact sk_n rfl), (by first | exact sk rfl rfl | exact sk (q_int (by omega)) rfl | exact sk (q_bool (by simp)) rfl | exact sk (q_view rfl rfl rfl (by omega)) rfl | exact sk (q_gview rfl (by simp)) rfl | exact sk (q_nil rfl) rfl | exact sk (q_row (by simp)) rfl | exact sk_g rfl rfl rfl rfl | exact sk_v rfl rfl rfl rfl rfl | exact sk_n rfl), (by first | exact sk rfl rfl | exact sk (q_int (by omega)) rfl | exact sk (q_bool (by simp)) rfl | exact sk (q_view rfl rfl rfl (by omega)) rfl | exact sk (q_gview rfl (by simp)) rfl | exact sk (q_nil rfl) rfl | exact sk (q_row (by simp)) rfl | exact sk_g rfl rfl rfl rfl | exact sk_v rfl rfl rfl rfl rfl | exact sk_n rfl), True.intro⟩
        · try dsimp only
          refine ⟨by omega, ?_⟩
          rw [hb, before_step (by omega) (by omega), if_pos (by omega)]
        · (try dsimp only); omega
    · try simp only [Bool.or_eq_true, Bool.and_eq_true, Bool.not_eq_true', Bool.not_eq_false', Bool.or_eq_false_iff, Bool.and_eq_false_imp, decide_eq_true_eq, decide_eq_false_iff_not, Bool.not_true, Bool.not_false, beq_iff_eq, Bool.not_eq_true, Bool.not_eq_false, Bool.true_eq_false, Bool.false_eq_true, not_or, Decidable.not_not, ne_eq] at c2
      try simp only [Int.toNat_natCast, dflt_i, dflt_b, dflt_l, dflt_p, Int.toNat_zero, gt_iff_lt, ge_iff_le] at c2
      refine aw_exit ?_
      refine aw_seq ?_
      refine aw_reg _ (by kernel_rfl) rfl ?_
      refine st (m := false) tabok rfl rfl rfl (by (repeat' apply And.intro); all_goals first | exact True.intro | rfl | omega | (simp only [inr]; omega) | (simp only [IntKind.bits]; omega) | exact fun h => h | (intro hq; rw [hq]; rfl) | (simp only [Int.toNat_natCast, dflt_i, dflt_b, dflt_l, dflt_p, Int.toNat_zero, gt_iff_lt, ge_iff_le]; omega) | (simp only [ti3, ti4, ti22, ti41]; omega) | (simp [ti3, ti4, ti22, ti41]; omega) | (simp_all; done) | (simp [SV.cellsL, SV.cells]; done) | (simp [SV.cellsL, SV.cells]; omega)) ?_
      refine ops_nil ?_
      refine aw_ret ?_
      -- leaf ret.2f
      refine ret_c ?_
      refine fs_ff ?_
      rw [hb, before_end]
      omega
def fewR (q : Int) : Nat → Int → Int
  | 0, n => n
  | r + 1, n => if n ≤ 3000 then fewR q r (n * q) else n
def fewQ (mo : Int) : Int := min (max mo 0) 4000 + 1
def fewS (m : List Mix) (mo : Int) : Bool := decide (fewR (fewQ mo) m.length 1 ≤ 3000)
theorem few_ok (m : List Mix) (mo : Int) (hm : Big m.length) : CS Try.prog 16 [.row TMix m, .int .i64 mo] (.bool (fewS m mo)) := by
  unfold Big at hm
  refine fn_c [4] Try.func16 Try.ntmps16 rfl rfl rfl rfl ?_
  refine aw_seq ?_
  refine aw_reg _ (by kernel_rfl) rfl ?_
  refine st (m := false) tabok rfl rfl rfl (by (repeat' apply And.intro); all_goals first | exact True.intro | rfl | omega | (simp only [inr]; omega) | (simp only [IntKind.bits]; omega) | exact fun h => h | (intro hq; rw [hq]; rfl) | (simp only [Int.toNat_natCast, dflt_i, dflt_b, dflt_l, dflt_p, Int.toNat_zero, gt_iff_lt, ge_iff_le]; omega) | (simp only [ti3, ti4, ti22, ti41]; omega) | (simp [ti3, ti4, ti22, ti41]; omega) | (simp_all; done) | (simp [SV.cellsL, SV.cells]; done) | (simp [SV.cellsL, SV.cells]; omega)) ?_
  refine ops_nil ?_
  refine aw_seq ?_
  refine aw_reg _ (by kernel_rfl) rfl ?_
  refine st (m := false) tabok rfl rfl rfl (by (repeat' apply And.intro); all_goals first | exact True.intro | rfl | omega | (simp only [inr]; omega) | (simp only [IntKind.bits]; omega) | exact fun h => h | (intro hq; rw [hq]; rfl) | (simp only [Int.toNat_natCast, dflt_i, dflt_b, dflt_l, dflt_p, Int.toNat_zero, gt_iff_lt, ge_iff_le]; omega) | (simp only [ti3, ti4, ti22, ti41]; omega) | (simp [ti3, ti4, ti22, ti41]; omega) | (simp_all; done) | (simp [SV.cellsL, SV.cells]; done) | (simp [SV.cellsL, SV.cells]; omega)) ?_
  refine ops_nil ?_
  refine aw_seq ?_
  refine aw_seq ?_
  refine aw_reg _ (by kernel_rfl) rfl ?_
  refine st (m := false) tabok rfl rfl rfl (by (repeat' apply And.intro); all_goals first | exact True.intro | rfl | omega | (simp only [inr]; omega) | (simp only [IntKind.bits]; omega) | exact fun h => h | (intro hq; rw [hq]; rfl) | (simp only [Int.toNat_natCast, dflt_i, dflt_b, dflt_l, dflt_p, Int.toNat_zero, gt_iff_lt, ge_iff_le]; omega) | (simp only [ti3, ti4, ti22, ti41]; omega) | (simp [ti3, ti4, ti22, ti41]; omega) | (simp_all; done) | (simp [SV.cellsL, SV.cells]; done) | (simp [SV.cellsL, SV.cells]; omega)) ?_
  refine ops_nil ?_
  refine aw_block ?_
  refine aw_loop (X := (Nat) × (Int)) (fun (x : (Nat) × (Int)) => match x with | (i, n) => outT (look [(0, .row TMix m), (1, .int .i64 mo), (5, .int .i64 n), (6, .int .i64 i)])) (fun (x : (Nat) × (Int)) => match x with | (i, n) => outS []) (fun (x : (Nat) × (Int)) => match x with | (i, n) => (i ≤ m.length) ∧ (0 ≤ n ∧ n ≤ 13000000) ∧ (fewR (fewQ mo) m.length 1 = fewR (fewQ mo) (m.length - i) n)) (fun (x : (Nat) × (Int)) => match x with | (i, n) => m.length - i) ((0, 1)) ?_ ?_ ?_
  -- leaf L0:entry
  · exact goes_to (tm := _) (st := _) [] rfl rfl True.intro ⟨(by first | exact sk rfl rfl | exact sk (q_int (by omega)) rfl | exact sk (q_bool (by simp)) rfl | exact sk (q_view rfl rfl rfl (by omega)) rfl | exact sk (q_gview rfl (by simp)) rfl | exact sk (q_nil rfl) rfl | exact sk (q_row (by simp)) rfl | exact sk_g rfl rfl rfl rfl | exact sk_v rfl rfl rfl rfl rfl | exact sk_n rfl), (by first | exact sk rfl rfl | exact sk (q_int (by omega)) rfl | exact sk (q_bool (by simp)) rfl | exact sk (q_view rfl rfl rfl (by omega)) rfl | exact sk (q_gview rfl (by simp)) rfl | exact sk (q_nil rfl) rfl | exact sk (q_row (by simp)) rfl | exact sk_g rfl rfl rfl rfl | exact sk_v rfl rfl rfl rfl rfl | exact sk_n rfl), (by first | exact sk rfl rfl | exact sk (q_int (by omega)) rfl | exact sk (q_bool (by simp)) rfl | exact sk (q_view rfl rfl rfl (by omega)) rfl | exact sk (q_gview rfl (by simp)) rfl | exact sk (q_nil rfl) rfl | exact sk (q_row (by simp)) rfl | exact sk_g rfl rfl rfl rfl | exact sk_v rfl rfl rfl rfl rfl | exact sk_n rfl), (by first | exact sk rfl rfl | exact sk (q_int (by omega)) rfl | exact sk (q_bool (by simp)) rfl | exact sk (q_view rfl rfl rfl (by omega)) rfl | exact sk (q_gview rfl (by simp)) rfl | exact sk (q_nil rfl) rfl | exact sk (q_row (by simp)) rfl | exact sk_g rfl rfl rfl rfl | exact sk_v rfl rfl rfl rfl rfl | exact sk_n rfl), True.intro⟩
  · exact ⟨by omega, by omega, rfl⟩
  · skip
    rintro ⟨i, n⟩ ⟨hi, hn, hb⟩
    change awpB _ _ _ _ _ (outT (look [(0, .row TMix m), (1, .int .i64 mo), (5, .int .i64 n), (6, .int .i64 i)])) (outS [])
    refine aw_seq ?_
    refine aw_seq ?_
    refine aw_reg _ (by kernel_rfl) rfl ?_
    iterate 5 refine st (m := false) tabok rfl rfl rfl (by (repeat' apply And.intro); all_goals first | exact True.intro | rfl | omega | (simp only [inr]; omega) | (simp only [IntKind.bits]; omega) | exact fun h => h | (intro hq; rw [hq]; rfl) | (simp only [Int.toNat_natCast, dflt_i, dflt_b, dflt_l, dflt_p, Int.toNat_zero, gt_iff_lt, ge_iff_le]; omega) | (simp only [ti3, ti4, ti22, ti41]; omega) | (simp [ti3, ti4, ti22, ti41]; omega) | (simp_all; done) | (simp [SV.cellsL, SV.cells]; done) | (simp [SV.cellsL, SV.cells]; omega)) ?_
    iterate 2 refine stg (m := false) tabok rfl rfl rfl rfl rfl (by intro hg; have hg0 := hg; (try simp only [Bool.or_eq_true, Bool.and_eq_true, Bool.not_eq_true', Bool.not_eq_false', Bool.or_eq_false_iff, Bool.and_eq_false_imp, decide_eq_true_eq, decide_eq_false_iff_not, Bool.not_true, Bool.not_false, beq_iff_eq, Bool.not_eq_true, Bool.not_eq_false, Bool.true_eq_false, Bool.false_eq_true, not_or, Decidable.not_not, ne_eq] at hg); (try simp only [Int.toNat_natCast, dflt_i, dflt_b, dflt_l, dflt_p, Int.toNat_zero, gt_iff_lt, ge_iff_le] at hg); (repeat' apply And.intro); all_goals first | exact hg0 | exact True.intro | rfl | omega | (simp only [inr]; omega) | (simp only [IntKind.bits]; omega) | (simp only [Bool.or_eq_true, Bool.and_eq_true, Bool.not_eq_true', Bool.not_eq_false', Bool.or_eq_false_iff, Bool.and_eq_false_imp, decide_eq_true_eq, decide_eq_false_iff_not, Bool.not_true, Bool.not_false, beq_iff_eq, Bool.not_eq_true, Bool.not_eq_false, Bool.true_eq_false, Bool.false_eq_true, not_or, Decidable.not_not, ne_eq]; omega) | (simp only [inr, Int.toNat_natCast, dflt_i, dflt_b, dflt_l, dflt_p, Int.toNat_zero, gt_iff_lt, ge_iff_le]; omega) | (simp only [Int.toNat_natCast, dflt_i, dflt_b, dflt_l, dflt_p, Int.toNat_zero, gt_iff_lt, ge_iff_le]; omega) | (simp only [Bool.or_eq_true, Bool.and_eq_true, Bool.not_eq_true', Bool.not_eq_false', Bool.or_eq_false_iff, Bool.and_eq_false_imp, decide_eq_true_eq, decide_eq_false_iff_not, Bool.not_true, Bool.not_false, beq_iff_eq, Bool.not_eq_true, Bool.not_eq_false, Bool.true_eq_false, Bool.false_eq_true, not_or, Decidable.not_not, ne_eq] at hg0 ⊢; simp_all; done) | (simp_all; done) | (simp_all; omega)) ?_
    refine st (m := false) tabok rfl rfl rfl (by (repeat' apply And.intro); all_goals first | exact True.intro | rfl | omega | (simp only [inr]; omega) | (simp only [IntKind.bits]; omega) | exact fun h => h | (intro hq; rw [hq]; rfl) | (simp only [Int.toNat_natCast, dflt_i, dflt_b, dflt_l, dflt_p, Int.toNat_zero, gt_iff_lt, ge_iff_le]; omega) | (simp only [ti3, ti4, ti22, ti41]; omega) | (simp [ti3, ti4, ti22, ti41]; omega) | (simp_all; done) | (simp [SV.cellsL, SV.cells]; done) | (simp [SV.cellsL, SV.cells]; omega)) ?_
    refine ops_nil ?_
    refine aw_if rfl (fun c3 => ?_) (fun c3 => ?_)
    · try simp only [Bool.or_eq_true, Bool.and_eq_true, Bool.not_eq_true', Bool.not_eq_false', Bool.or_eq_false_iff, Bool.and_eq_false_imp, decide_eq_true_eq, decide_eq_false_iff_not, Bool.not_true, Bool.not_false, beq_iff_eq, Bool.not_eq_true, Bool.not_eq_false, Bool.true_eq_false, Bool.false_eq_true, not_or, Decidable.not_not, ne_eq] at c3
      try simp only [Int.toNat_natCast, dflt_i, dflt_b, dflt_l, dflt_p, Int.toNat_zero, gt_iff_lt, ge_iff_le] at c3
      have h1 := mul_rng (a := n) (b := min (max mo 0) 4000 + 1) (A := 3000) (B := 4001) (by omega) (by omega) (by omega) (by omega)
      refine aw_skip ?_
      refine aw_seq ?_
      refine aw_block ?_
      refine aw_reg _ (by kernel_rfl) rfl ?_
      iterate 7 refine st (m := false) tabok rfl rfl rfl (by (repeat' apply And.intro); all_goals first | exact True.intro | rfl | omega | (simp only [inr]; omega) | (simp only [IntKind.bits]; omega) | exact fun h => h | (intro hq; rw [hq]; rfl) | (simp only [Int.toNat_natCast, dflt_i, dflt_b, dflt_l, dflt_p, Int.toNat_zero, gt_iff_lt, ge_iff_le]; omega) | (simp only [ti3, ti4, ti22, ti41]; omega) | (simp [ti3, ti4, ti22, ti41]; omega) | (simp_all; done) | (simp [SV.cellsL, SV.cells]; done) | (simp [SV.cellsL, SV.cells]; omega)) ?_
      refine ops_nil ?_
      refine aw_reg _ (by kernel_rfl) rfl ?_
      iterate 3 refine st (m := false) tabok rfl rfl rfl (by (repeat' apply And.intro); all_goals first | exact True.intro | rfl | omega | (simp only [inr]; omega) | (simp only [IntKind.bits]; omega) | exact fun h => h | (intro hq; rw [hq]; rfl) | (simp only [Int.toNat_natCast, dflt_i, dflt_b, dflt_l, dflt_p, Int.toNat_zero, gt_iff_lt, ge_iff_le]; omega) | (simp only [ti3, ti4, ti22, ti41]; omega) | (simp [ti3, ti4, ti22, ti41]; omega) | (simp_all; done) | (simp [SV.cellsL, SV.cells]; done) | (simp [SV.cellsL, SV.cells]; omega)) ?_
      refine ops_nil ?_
      -- leaf L0.3t
      refine Exists.intro ((i + 1, n * (min (max mo 0) 4000 + 1))) ⟨?_, ?_, ?_⟩
      · exact goes_to (tm := _) (st := _) [] rfl rfl True.intro ⟨(by first | exact sk rfl rfl | exact sk (q_int (by omega)) rfl | exact sk (q_bool (by simp)) rfl | exact sk (q_view rfl rfl rfl (by omega)) rfl | exact sk (q_gview rfl (by simp)) rfl | exact sk (q_nil rfl) rfl | exact sk (q_row (by simp)) rfl | exact sk_g rfl rfl rfl rfl | exact sk_v rfl rfl rfl rfl rfl | exact sk_n rfl), (by first | exact sk rfl rfl | exact sk (q_int (by omega)) rfl | exact sk (q_bool (by simp)) rfl | exact sk (q_view rfl rfl rfl (by omega)) rfl | exact sk (q_gview rfl (by simp)) rfl | exact sk (q_nil rfl) rfl | exact sk (q_row (by simp)) rfl | exact sk_g rfl rfl rfl rfl | exact sk_v rfl rfl rfl rfl rfl | exact sk_n rfl), (by first | exact sk rfl rfl | exact sk (q_int (by omega)) rfl | exact sk (q_bool (by simp)) rfl | exact sk (q_view rfl rfl rfl (by omega)) rfl | exact sk (q_gview rfl (by simp)) rfl | exact sk (q_nil rfl) rfl | exact sk (q_row (by simp)) rfl | exact sk_g rfl rfl rfl rfl | exact sk_v rfl rfl rfl rfl rfl | exact sk_n rfl), (by first | exact sk rfl rfl | exact sk (q_int (by omega)) rfl | exact sk (q_bool (by simp)) rfl | exact sk (q_view rfl rfl rfl (by omega)) rfl | exact sk (q_gview rfl (by simp)) rfl | exact sk (q_nil rfl) rfl | exact sk (q_row (by simp)) rfl | exact sk_g rfl rfl rfl rfl | exact sk_v rfl rfl rfl rfl rfl | exact sk_n rfl), True.intro⟩
      · try dsimp only
        refine ⟨by omega, by omega, ?_⟩
        rw [hb, show m.length - i = (m.length - (i + 1)) + 1 by omega, fewR, if_pos (by omega)]
        rfl
      · (try dsimp only); omega
    · try simp only [Bool.or_eq_true, Bool.and_eq_true, Bool.not_eq_true', Bool.not_eq_false', Bool.or_eq_false_iff, Bool.and_eq_false_imp, decide_eq_true_eq, decide_eq_false_iff_not, Bool.not_true, Bool.not_false, beq_iff_eq, Bool.not_eq_true, Bool.not_eq_false, Bool.true_eq_false, Bool.false_eq_true, not_or, Decidable.not_not, ne_eq] at c3
      try simp only [Int.toNat_natCast, dflt_i, dflt_b, dflt_l, dflt_p, Int.toNat_zero, gt_iff_lt, ge_iff_le] at c3
      refine aw_exit ?_
      refine aw_seq ?_
      refine aw_reg _ (by kernel_rfl) rfl ?_
      iterate 3 refine st (m := false) tabok rfl rfl rfl (by (repeat' apply And.intro); all_goals first | exact True.intro | rfl | omega | (simp only [inr]; omega) | (simp only [IntKind.bits]; omega) | exact fun h => h | (intro hq; rw [hq]; rfl) | (simp only [Int.toNat_natCast, dflt_i, dflt_b, dflt_l, dflt_p, Int.toNat_zero, gt_iff_lt, ge_iff_le]; omega) | (simp only [ti3, ti4, ti22, ti41]; omega) | (simp [ti3, ti4, ti22, ti41]; omega) | (simp_all; done) | (simp [SV.cellsL, SV.cells]; done) | (simp [SV.cellsL, SV.cells]; omega)) ?_
      refine ops_nil ?_
      refine aw_ret ?_
      -- leaf ret.3f
      refine ret_c ?_
      refine fs_bool ?_
      unfold fewS
      rw [hb]
      by_cases hl : m.length - i = 0
      · rw [hl]; rfl
      · rw [show m.length - i = (m.length - i - 1) + 1 by omega, fewR, if_neg (by omega)]
def usualS (t : Task) (m : List Mix) : Bool := lightS m && decide (t.1.length ≤ 30) && fewS m t.2.2 && decide (0 ≤ t.2.1 ∧ t.2.1 ≤ 1000 ∧ 0 ≤ t.2.2 ∧ t.2.2 ≤ 40) && t.1.all fun n => decide (0 ≤ n ∧ n ≤ 1000)
theorem usual_iff {t : Task} {m : List Mix} : usualS t m = true ↔ lightS m = true ∧ t.1.length ≤ 30 ∧ fewS m t.2.2 = true ∧ (0 ≤ t.2.1 ∧ t.2.1 ≤ 1000 ∧ 0 ≤ t.2.2 ∧ t.2.2 ≤ 40) ∧ ∀ i, i < t.1.length → 0 ≤ t.1.getD i 0 ∧ t.1.getD i 0 ≤ 1000 := by
  simp only [usualS, Bool.and_eq_true, decide_eq_true_eq]
  constructor
  · rintro ⟨⟨⟨⟨h1, h2⟩, h3⟩, h4⟩, h5⟩
    exact ⟨h1, h2, h3, h4, fun i hi => by have := all_get 0 h5 hi; simpa using this⟩
  · rintro ⟨h1, h2, h3, h4, h5⟩
    exact ⟨⟨⟨⟨h1, h2⟩, h3⟩, h4⟩, all_of 0 fun i hi => by have := h5 i hi; simpa using this⟩
theorem usual_ok (t : Task) (m : List Mix) (hm : lightS m = true → Big m.length) : CS Try.prog 8 [taskS t, .row TMix m] (.bool (usualS t m)) := by
  refine fn_c [4] Try.func8 Try.ntmps8 rfl rfl rfl rfl ?_
  refine aw_seq ?_
  refine aw_reg _ (by kernel_rfl) rfl ?_
  iterate 2 refine st (m := false) tabok rfl rfl rfl (by (repeat' apply And.intro); all_goals first | exact True.intro | rfl | omega | (simp only [inr]; omega) | (simp only [IntKind.bits]; omega) | exact fun h => h | (intro hq; rw [hq]; rfl) | (simp only [Int.toNat_natCast, dflt_i, dflt_b, dflt_l, dflt_p, Int.toNat_zero, gt_iff_lt, ge_iff_le]; omega) | (simp only [ti3, ti4, ti22, ti41]; omega) | (simp [ti3, ti4, ti22, ti41]; omega) | (simp_all; done) | (simp [SV.cellsL, SV.cells]; done) | (simp [SV.cellsL, SV.cells]; omega)) ?_
  refine ops_nil ?_
  refine aw_seq ?_
  refine aw_seq ?_
  refine aw_reg _ (by kernel_rfl) rfl ?_
  refine st (m := false) tabok rfl rfl rfl (by (repeat' apply And.intro); all_goals first | exact True.intro | rfl | omega | (simp only [inr]; omega) | (simp only [IntKind.bits]; omega) | exact fun h => h | (intro hq; rw [hq]; rfl) | (simp only [Int.toNat_natCast, dflt_i, dflt_b, dflt_l, dflt_p, Int.toNat_zero, gt_iff_lt, ge_iff_le]; omega) | (simp only [ti3, ti4, ti22, ti41]; omega) | (simp [ti3, ti4, ti22, ti41]; omega) | (simp_all; done) | (simp [SV.cellsL, SV.cells]; done) | (simp [SV.cellsL, SV.cells]; omega)) ?_
  refine sc (light_ok m) rfl rfl (by kernel_rfl) rfl (by kernel_rfl) (.cons (by first | exact argw_same | exact argw_nil | exact argw_tt | exact argw_ff | exact argw_eq rfl) .nil) ?_
  iterate 2 refine st (m := false) tabok rfl rfl rfl (by (repeat' apply And.intro); all_goals first | exact True.intro | rfl | omega | (simp only [inr]; omega) | (simp only [IntKind.bits]; omega) | exact fun h => h | (intro hq; rw [hq]; rfl) | (simp only [Int.toNat_natCast, dflt_i, dflt_b, dflt_l, dflt_p, Int.toNat_zero, gt_iff_lt, ge_iff_le]; omega) | (simp only [ti3, ti4, ti22, ti41]; omega) | (simp [ti3, ti4, ti22, ti41]; omega) | (simp_all; done) | (simp [SV.cellsL, SV.cells]; done) | (simp [SV.cellsL, SV.cells]; omega)) ?_
  iterate 4 refine stg (m := false) tabok rfl rfl rfl rfl rfl (by intro hg; have hg0 := hg; (try simp only [Bool.or_eq_true, Bool.and_eq_true, Bool.not_eq_true', Bool.not_eq_false', Bool.or_eq_false_iff, Bool.and_eq_false_imp, decide_eq_true_eq, decide_eq_false_iff_not, Bool.not_true, Bool.not_false, beq_iff_eq, Bool.not_eq_true, Bool.not_eq_false, Bool.true_eq_false, Bool.false_eq_true, not_or, Decidable.not_not, ne_eq] at hg); (try simp only [Int.toNat_natCast, dflt_i, dflt_b, dflt_l, dflt_p, Int.toNat_zero, gt_iff_lt, ge_iff_le] at hg); (repeat' apply And.intro); all_goals first | exact hg0 | exact True.intro | rfl | omega | (simp only [inr]; omega) | (simp only [IntKind.bits]; omega) | (simp only [Bool.or_eq_true, Bool.and_eq_true, Bool.not_eq_true', Bool.not_eq_false', Bool.or_eq_false_iff, Bool.and_eq_false_imp, decide_eq_true_eq, decide_eq_false_iff_not, Bool.not_true, Bool.not_false, beq_iff_eq, Bool.not_eq_true, Bool.not_eq_false, Bool.true_eq_false, Bool.false_eq_true, not_or, Decidable.not_not, ne_eq]; omega) | (simp only [inr, Int.toNat_natCast, dflt_i, dflt_b, dflt_l, dflt_p, Int.toNat_zero, gt_iff_lt, ge_iff_le]; omega) | (simp only [Int.toNat_natCast, dflt_i, dflt_b, dflt_l, dflt_p, Int.toNat_zero, gt_iff_lt, ge_iff_le]; omega) | (simp only [Bool.or_eq_true, Bool.and_eq_true, Bool.not_eq_true', Bool.not_eq_false', Bool.or_eq_false_iff, Bool.and_eq_false_imp, decide_eq_true_eq, decide_eq_false_iff_not, Bool.not_true, Bool.not_false, beq_iff_eq, Bool.not_eq_true, Bool.not_eq_false, Bool.true_eq_false, Bool.false_eq_true, not_or, Decidable.not_not, ne_eq] at hg0 ⊢; simp_all; done) | (simp_all; done) | (simp_all; omega)) ?_
  iterate 2 refine st (m := false) tabok rfl rfl rfl (by (repeat' apply And.intro); all_goals first | exact True.intro | rfl | omega | (simp only [inr]; omega) | (simp only [IntKind.bits]; omega) | exact fun h => h | (intro hq; rw [hq]; rfl) | (simp only [Int.toNat_natCast, dflt_i, dflt_b, dflt_l, dflt_p, Int.toNat_zero, gt_iff_lt, ge_iff_le]; omega) | (simp only [ti3, ti4, ti22, ti41]; omega) | (simp [ti3, ti4, ti22, ti41]; omega) | (simp_all; done) | (simp [SV.cellsL, SV.cells]; done) | (simp [SV.cellsL, SV.cells]; omega)) ?_
  iterate 3 refine stg (m := false) tabok rfl rfl rfl rfl rfl (by intro hg; have hg0 := hg; (try simp only [Bool.or_eq_true, Bool.and_eq_true, Bool.not_eq_true', Bool.not_eq_false', Bool.or_eq_false_iff, Bool.and_eq_false_imp, decide_eq_true_eq, decide_eq_false_iff_not, Bool.not_true, Bool.not_false, beq_iff_eq, Bool.not_eq_true, Bool.not_eq_false, Bool.true_eq_false, Bool.false_eq_true, not_or, Decidable.not_not, ne_eq] at hg); (try simp only [Int.toNat_natCast, dflt_i, dflt_b, dflt_l, dflt_p, Int.toNat_zero, gt_iff_lt, ge_iff_le] at hg); (repeat' apply And.intro); all_goals first | exact hg0 | exact True.intro | rfl | omega | (simp only [inr]; omega) | (simp only [IntKind.bits]; omega) | (simp only [Bool.or_eq_true, Bool.and_eq_true, Bool.not_eq_true', Bool.not_eq_false', Bool.or_eq_false_iff, Bool.and_eq_false_imp, decide_eq_true_eq, decide_eq_false_iff_not, Bool.not_true, Bool.not_false, beq_iff_eq, Bool.not_eq_true, Bool.not_eq_false, Bool.true_eq_false, Bool.false_eq_true, not_or, Decidable.not_not, ne_eq]; omega) | (simp only [inr, Int.toNat_natCast, dflt_i, dflt_b, dflt_l, dflt_p, Int.toNat_zero, gt_iff_lt, ge_iff_le]; omega) | (simp only [Int.toNat_natCast, dflt_i, dflt_b, dflt_l, dflt_p, Int.toNat_zero, gt_iff_lt, ge_iff_le]; omega) | (simp only [Bool.or_eq_true, Bool.and_eq_true, Bool.not_eq_true', Bool.not_eq_false', Bool.or_eq_false_iff, Bool.and_eq_false_imp, decide_eq_true_eq, decide_eq_false_iff_not, Bool.not_true, Bool.not_false, beq_iff_eq, Bool.not_eq_true, Bool.not_eq_false, Bool.true_eq_false, Bool.false_eq_true, not_or, Decidable.not_not, ne_eq] at hg0 ⊢; simp_all; done) | (simp_all; done) | (simp_all; omega)) ?_
  refine scg (fun hg => few_ok m t.2.2 (hm (by simp_all))) rfl rfl rfl rfl (by kernel_rfl) rfl (by kernel_rfl) (fun hg => (.cons (by first | exact argw_same | exact argw_nil | exact argw_tt | exact argw_ff | exact argw_eq rfl) (.cons (by first | exact argw_same | exact argw_nil | exact argw_tt | exact argw_ff | exact argw_eq rfl) .nil))) rfl (by intro hg; have hg0 := hg; (try simp only [Bool.or_eq_true, Bool.and_eq_true, Bool.not_eq_true', Bool.not_eq_false', Bool.or_eq_false_iff, Bool.and_eq_false_imp, decide_eq_true_eq, decide_eq_false_iff_not, Bool.not_true, Bool.not_false, beq_iff_eq, Bool.not_eq_true, Bool.not_eq_false, Bool.true_eq_false, Bool.false_eq_true, not_or, Decidable.not_not, ne_eq] at hg); (try simp only [Int.toNat_natCast, dflt_i, dflt_b, dflt_l, dflt_p, Int.toNat_zero, gt_iff_lt, ge_iff_le] at hg); (repeat' apply And.intro); all_goals first | exact hg0 | exact True.intro | rfl | omega | (simp only [inr]; omega) | (simp only [IntKind.bits]; omega) | (simp only [Bool.or_eq_true, Bool.and_eq_true, Bool.not_eq_true', Bool.not_eq_false', Bool.or_eq_false_iff, Bool.and_eq_false_imp, decide_eq_true_eq, decide_eq_false_iff_not, Bool.not_true, Bool.not_false, beq_iff_eq, Bool.not_eq_true, Bool.not_eq_false, Bool.true_eq_false, Bool.false_eq_true, not_or, Decidable.not_not, ne_eq]; omega) | (simp only [inr, Int.toNat_natCast, dflt_i, dflt_b, dflt_l, dflt_p, Int.toNat_zero, gt_iff_lt, ge_iff_le]; omega) | (simp only [Int.toNat_natCast, dflt_i, dflt_b, dflt_l, dflt_p, Int.toNat_zero, gt_iff_lt, ge_iff_le]; omega) | (simp only [Bool.or_eq_true, Bool.and_eq_true, Bool.not_eq_true', Bool.not_eq_false', Bool.or_eq_false_iff, Bool.and_eq_false_imp, decide_eq_true_eq, decide_eq_false_iff_not, Bool.not_true, Bool.not_false, beq_iff_eq, Bool.not_eq_true, Bool.not_eq_false, Bool.true_eq_false, Bool.false_eq_true, not_or, Decidable.not_not, ne_eq] at hg0 ⊢; simp_all; done) | (simp_all; done) | (simp_all; omega)) ?_
  refine stg (m := false) tabok rfl rfl rfl rfl rfl (by intro hg; have hg0 := hg; (try simp only [Bool.or_eq_true, Bool.and_eq_true, Bool.not_eq_true', Bool.not_eq_false', Bool.or_eq_false_iff, Bool.and_eq_false_imp, decide_eq_true_eq, decide_eq_false_iff_not, Bool.not_true, Bool.not_false, beq_iff_eq, Bool.not_eq_true, Bool.not_eq_false, Bool.true_eq_false, Bool.false_eq_true, not_or, Decidable.not_not, ne_eq] at hg); (try simp only [Int.toNat_natCast, dflt_i, dflt_b, dflt_l, dflt_p, Int.toNat_zero, gt_iff_lt, ge_iff_le] at hg); (repeat' apply And.intro); all_goals first | exact hg0 | exact True.intro | rfl | omega | (simp only [inr]; omega) | (simp only [IntKind.bits]; omega) | (simp only [Bool.or_eq_true, Bool.and_eq_true, Bool.not_eq_true', Bool.not_eq_false', Bool.or_eq_false_iff, Bool.and_eq_false_imp, decide_eq_true_eq, decide_eq_false_iff_not, Bool.not_true, Bool.not_false, beq_iff_eq, Bool.not_eq_true, Bool.not_eq_false, Bool.true_eq_false, Bool.false_eq_true, not_or, Decidable.not_not, ne_eq]; omega) | (simp only [inr, Int.toNat_natCast, dflt_i, dflt_b, dflt_l, dflt_p, Int.toNat_zero, gt_iff_lt, ge_iff_le]; omega) | (simp only [Int.toNat_natCast, dflt_i, dflt_b, dflt_l, dflt_p, Int.toNat_zero, gt_iff_lt, ge_iff_le]; omega) | (simp only [Bool.or_eq_true, Bool.and_eq_true, Bool.not_eq_true', Bool.not_eq_false', Bool.or_eq_false_iff, Bool.and_eq_false_imp, decide_eq_true_eq, decide_eq_false_iff_not, Bool.not_true, Bool.not_false, beq_iff_eq, Bool.not_eq_true, Bool.not_eq_false, Bool.true_eq_false, Bool.false_eq_true, not_or, Decidable.not_not, ne_eq] at hg0 ⊢; simp_all; done) | (simp_all; done) | (simp_all; omega)) ?_
  iterate 2 refine st (m := false) tabok rfl rfl rfl (by (repeat' apply And.intro); all_goals first | exact True.intro | rfl | omega | (simp only [inr]; omega) | (simp only [IntKind.bits]; omega) | exact fun h => h | (intro hq; rw [hq]; rfl) | (simp only [Int.toNat_natCast, dflt_i, dflt_b, dflt_l, dflt_p, Int.toNat_zero, gt_iff_lt, ge_iff_le]; omega) | (simp only [ti3, ti4, ti22, ti41]; omega) | (simp [ti3, ti4, ti22, ti41]; omega) | (simp_all; done) | (simp [SV.cellsL, SV.cells]; done) | (simp [SV.cellsL, SV.cells]; omega)) ?_
  iterate 3 refine stg (m := false) tabok rfl rfl rfl rfl rfl (by intro hg; have hg0 := hg; (try simp only [Bool.or_eq_true, Bool.and_eq_true, Bool.not_eq_true', Bool.not_eq_false', Bool.or_eq_false_iff, Bool.and_eq_false_imp, decide_eq_true_eq, decide_eq_false_iff_not, Bool.not_true, Bool.not_false, beq_iff_eq, Bool.not_eq_true, Bool.not_eq_false, Bool.true_eq_false, Bool.false_eq_true, not_or, Decidable.not_not, ne_eq] at hg); (try simp only [Int.toNat_natCast, dflt_i, dflt_b, dflt_l, dflt_p, Int.toNat_zero, gt_iff_lt, ge_iff_le] at hg); (repeat' apply And.intro); all_goals first | exact hg0 | exact True.intro | rfl | omega | (simp only [inr]; omega) | (simp only [IntKind.bits]; omega) | (simp only [Bool.or_eq_true, Bool.and_eq_true, Bool.not_eq_true', Bool.not_eq_false', Bool.or_eq_false_iff, Bool.and_eq_false_imp, decide_eq_true_eq, decide_eq_false_iff_not, Bool.not_true, Bool.not_false, beq_iff_eq, Bool.not_eq_true, Bool.not_eq_false, Bool.true_eq_false, Bool.false_eq_true, not_or, Decidable.not_not, ne_eq]; omega) | (simp only [inr, Int.toNat_natCast, dflt_i, dflt_b, dflt_l, dflt_p, Int.toNat_zero, gt_iff_lt, ge_iff_le]; omega) | (simp only [Int.toNat_natCast, dflt_i, dflt_b, dflt_l, dflt_p, Int.toNat_zero, gt_iff_lt, ge_iff_le]; omega) | (simp only [Bool.or_eq_true, Bool.and_eq_true, Bool.not_eq_true', Bool.not_eq_false', Bool.or_eq_false_iff, Bool.and_eq_false_imp, decide_eq_true_eq, decide_eq_false_iff_not, Bool.not_true, Bool.not_false, beq_iff_eq, Bool.not_eq_true, Bool.not_eq_false, Bool.true_eq_false, Bool.false_eq_true, not_or, Decidable.not_not, ne_eq] at hg0 ⊢; simp_all; done) | (simp_all; done) | (simp_all; omega)) ?_
  iterate 2 refine st (m := false) tabok rfl rfl rfl (by (repeat' apply And.intro); all_goals first | exact True.intro | rfl | omega | (simp only [inr]; omega) | (simp only [IntKind.bits]; omega) | exact fun h => h | (intro hq; rw [hq]; rfl) | (simp only [Int.toNat_natCast, dflt_i, dflt_b, dflt_l, dflt_p, Int.toNat_zero, gt_iff_lt, ge_iff_le]; omega) | (simp only [ti3, ti4, ti22, ti41]; omega) | (simp [ti3, ti4, ti22, ti41]; omega) | (simp_all; done) | (simp [SV.cellsL, SV.cells]; done) | (simp [SV.cellsL, SV.cells]; omega)) ?_
  iterate 3 refine stg (m := false) tabok rfl rfl rfl rfl rfl (by intro hg; have hg0 := hg; (try simp only [Bool.or_eq_true, Bool.and_eq_true, Bool.not_eq_true', Bool.not_eq_false', Bool.or_eq_false_iff, Bool.and_eq_false_imp, decide_eq_true_eq, decide_eq_false_iff_not, Bool.not_true, Bool.not_false, beq_iff_eq, Bool.not_eq_true, Bool.not_eq_false, Bool.true_eq_false, Bool.false_eq_true, not_or, Decidable.not_not, ne_eq] at hg); (try simp only [Int.toNat_natCast, dflt_i, dflt_b, dflt_l, dflt_p, Int.toNat_zero, gt_iff_lt, ge_iff_le] at hg); (repeat' apply And.intro); all_goals first | exact hg0 | exact True.intro | rfl | omega | (simp only [inr]; omega) | (simp only [IntKind.bits]; omega) | (simp only [Bool.or_eq_true, Bool.and_eq_true, Bool.not_eq_true', Bool.not_eq_false', Bool.or_eq_false_iff, Bool.and_eq_false_imp, decide_eq_true_eq, decide_eq_false_iff_not, Bool.not_true, Bool.not_false, beq_iff_eq, Bool.not_eq_true, Bool.not_eq_false, Bool.true_eq_false, Bool.false_eq_true, not_or, Decidable.not_not, ne_eq]; omega) | (simp only [inr, Int.toNat_natCast, dflt_i, dflt_b, dflt_l, dflt_p, Int.toNat_zero, gt_iff_lt, ge_iff_le]; omega) | (simp only [Int.toNat_natCast, dflt_i, dflt_b, dflt_l, dflt_p, Int.toNat_zero, gt_iff_lt, ge_iff_le]; omega) | (simp only [Bool.or_eq_true, Bool.and_eq_true, Bool.not_eq_true', Bool.not_eq_false', Bool.or_eq_false_iff, Bool.and_eq_false_imp, decide_eq_true_eq, decide_eq_false_iff_not, Bool.not_true, Bool.not_false, beq_iff_eq, Bool.not_eq_true, Bool.not_eq_false, Bool.true_eq_false, Bool.false_eq_true, not_or, Decidable.not_not, ne_eq] at hg0 ⊢; simp_all; done) | (simp_all; done) | (simp_all; omega)) ?_
  iterate 2 refine st (m := false) tabok rfl rfl rfl (by (repeat' apply And.intro); all_goals first | exact True.intro | rfl | omega | (simp only [inr]; omega) | (simp only [IntKind.bits]; omega) | exact fun h => h | (intro hq; rw [hq]; rfl) | (simp only [Int.toNat_natCast, dflt_i, dflt_b, dflt_l, dflt_p, Int.toNat_zero, gt_iff_lt, ge_iff_le]; omega) | (simp only [ti3, ti4, ti22, ti41]; omega) | (simp [ti3, ti4, ti22, ti41]; omega) | (simp_all; done) | (simp [SV.cellsL, SV.cells]; done) | (simp [SV.cellsL, SV.cells]; omega)) ?_
  iterate 3 refine stg (m := false) tabok rfl rfl rfl rfl rfl (by intro hg; have hg0 := hg; (try simp only [Bool.or_eq_true, Bool.and_eq_true, Bool.not_eq_true', Bool.not_eq_false', Bool.or_eq_false_iff, Bool.and_eq_false_imp, decide_eq_true_eq, decide_eq_false_iff_not, Bool.not_true, Bool.not_false, beq_iff_eq, Bool.not_eq_true, Bool.not_eq_false, Bool.true_eq_false, Bool.false_eq_true, not_or, Decidable.not_not, ne_eq] at hg); (try simp only [Int.toNat_natCast, dflt_i, dflt_b, dflt_l, dflt_p, Int.toNat_zero, gt_iff_lt, ge_iff_le] at hg); (repeat' apply And.intro); all_goals first | exact hg0 | exact True.intro | rfl | omega | (simp only [inr]; omega) | (simp only [IntKind.bits]; omega) | (simp only [Bool.or_eq_true, Bool.and_eq_true, Bool.not_eq_true', Bool.not_eq_false', Bool.or_eq_false_iff, Bool.and_eq_false_imp, decide_eq_true_eq, decide_eq_false_iff_not, Bool.not_true, Bool.not_false, beq_iff_eq, Bool.not_eq_true, Bool.not_eq_false, Bool.true_eq_false, Bool.false_eq_true, not_or, Decidable.not_not, ne_eq]; omega) | (simp only [inr, Int.toNat_natCast, dflt_i, dflt_b, dflt_l, dflt_p, Int.toNat_zero, gt_iff_lt, ge_iff_le]; omega) | (simp only [Int.toNat_natCast, dflt_i, dflt_b, dflt_l, dflt_p, Int.toNat_zero, gt_iff_lt, ge_iff_le]; omega) | (simp only [Bool.or_eq_true, Bool.and_eq_true, Bool.not_eq_true', Bool.not_eq_false', Bool.or_eq_false_iff, Bool.and_eq_false_imp, decide_eq_true_eq, decide_eq_false_iff_not, Bool.not_true, Bool.not_false, beq_iff_eq, Bool.not_eq_true, Bool.not_eq_false, Bool.true_eq_false, Bool.false_eq_true, not_or, Decidable.not_not, ne_eq] at hg0 ⊢; simp_all; done) | (simp_all; done) | (simp_all; omega)) ?_
  iterate 2 refine st (m := false) tabok rfl rfl rfl (by (repeat' apply And.intro); all_goals first | exact True.intro | rfl | omega | (simp only [inr]; omega) | (simp only [IntKind.bits]; omega) | exact fun h => h | (intro hq; rw [hq]; rfl) | (simp only [Int.toNat_natCast, dflt_i, dflt_b, dflt_l, dflt_p, Int.toNat_zero, gt_iff_lt, ge_iff_le]; omega) | (simp only [ti3, ti4, ti22, ti41]; omega) | (simp [ti3, ti4, ti22, ti41]; omega) | (simp_all; done) | (simp [SV.cellsL, SV.cells]; done) | (simp [SV.cellsL, SV.cells]; omega)) ?_
  iterate 3 refine stg (m := false) tabok rfl rfl rfl rfl rfl (by intro hg; have hg0 := hg; (try simp only [Bool.or_eq_true, Bool.and_eq_true, Bool.not_eq_true', Bool.not_eq_false', Bool.or_eq_false_iff, Bool.and_eq_false_imp, decide_eq_true_eq, decide_eq_false_iff_not, Bool.not_true, Bool.not_false, beq_iff_eq, Bool.not_eq_true, Bool.not_eq_false, Bool.true_eq_false, Bool.false_eq_true, not_or, Decidable.not_not, ne_eq] at hg); (try simp only [Int.toNat_natCast, dflt_i, dflt_b, dflt_l, dflt_p, Int.toNat_zero, gt_iff_lt, ge_iff_le] at hg); (repeat' apply And.intro); all_goals first | exact hg0 | exact True.intro | rfl | omega | (simp only [inr]; omega) | (simp only [IntKind.bits]; omega) | (simp only [Bool.or_eq_true, Bool.and_eq_true, Bool.not_eq_true', Bool.not_eq_false', Bool.or_eq_false_iff, Bool.and_eq_false_imp, decide_eq_true_eq, decide_eq_false_iff_not, Bool.not_true, Bool.not_false, beq_iff_eq, Bool.not_eq_true, Bool.not_eq_false, Bool.true_eq_false, Bool.false_eq_true, not_or, Decidable.not_not, ne_eq]; omega) | (simp only [inr, Int.toNat_natCast, dflt_i, dflt_b, dflt_l, dflt_p, Int.toNat_zero, gt_iff_lt, ge_iff_le]; omega) | (simp only [Int.toNat_natCast, dflt_i, dflt_b, dflt_l, dflt_p, Int.toNat_zero, gt_iff_lt, ge_iff_le]; omega) | (simp only [Bool.or_eq_true, Bool.and_eq_true, Bool.not_eq_true', Bool.not_eq_false', Bool.or_eq_false_iff, Bool.and_eq_false_imp, decide_eq_true_eq, decide_eq_false_iff_not, Bool.not_true, Bool.not_false, beq_iff_eq, Bool.not_eq_true, Bool.not_eq_false, Bool.true_eq_false, Bool.false_eq_true, not_or, Decidable.not_not, ne_eq] at hg0 ⊢; simp_all; done) | (simp_all; done) | (simp_all; omega)) ?_
  refine st (m := false) tabok rfl rfl rfl (by (repeat' apply And.intro); all_goals first | exact True.intro | rfl | omega | (simp only [inr]; omega) | (simp only [IntKind.bits]; omega) | exact fun h => h | (intro hq; rw [hq]; rfl) | (simp only [Int.toNat_natCast, dflt_i, dflt_b, dflt_l, dflt_p, Int.toNat_zero, gt_iff_lt, ge_iff_le]; omega) | (simp only [ti3, ti4, ti22, ti41]; omega) | (simp [ti3, ti4, ti22, ti41]; omega) | (simp_all; done) | (simp [SV.cellsL, SV.cells]; done) | (simp [SV.cellsL, SV.cells]; omega)) ?_
  refine ops_nil ?_
  refine aw_if rfl (fun c1 => ?_) (fun c1 => ?_)
  · try simp only [Bool.or_eq_true, Bool.and_eq_true, Bool.not_eq_true', Bool.not_eq_false', Bool.or_eq_false_iff, Bool.and_eq_false_imp, decide_eq_true_eq, decide_eq_false_iff_not, Bool.not_true, Bool.not_false, beq_iff_eq, Bool.not_eq_true, Bool.not_eq_false, Bool.true_eq_false, Bool.false_eq_true, not_or, Decidable.not_not, ne_eq] at c1
    try simp only [Int.toNat_natCast, dflt_i, dflt_b, dflt_l, dflt_p, Int.toNat_zero, gt_iff_lt, ge_iff_le] at c1
    refine aw_seq ?_
    refine aw_reg _ (by kernel_rfl) rfl ?_
    refine st (m := false) tabok rfl rfl rfl (by (repeat' apply And.intro); all_goals first | exact True.intro | rfl | omega | (simp only [inr]; omega) | (simp only [IntKind.bits]; omega) | exact fun h => h | (intro hq; rw [hq]; rfl) | (simp only [Int.toNat_natCast, dflt_i, dflt_b, dflt_l, dflt_p, Int.toNat_zero, gt_iff_lt, ge_iff_le]; omega) | (simp only [ti3, ti4, ti22, ti41]; omega) | (simp [ti3, ti4, ti22, ti41]; omega) | (simp_all; done) | (simp [SV.cellsL, SV.cells]; done) | (simp [SV.cellsL, SV.cells]; omega)) ?_
    refine ops_nil ?_
    refine aw_ret ?_
    -- leaf ret.1t
    refine ret_c ?_
    refine fs_ff ?_
    rw [Bool.eq_false_iff]
    intro hu
    obtain ⟨u1, u2, u3, u4, u5⟩ := usual_iff.1 hu
    simp only [u1, u3, Bool.true_eq_false, Bool.false_eq_true, or_false, false_or] at c1
    omega
  · try simp only [Bool.or_eq_true, Bool.and_eq_true, Bool.not_eq_true', Bool.not_eq_false', Bool.or_eq_false_iff, Bool.and_eq_false_imp, decide_eq_true_eq, decide_eq_false_iff_not, Bool.not_true, Bool.not_false, beq_iff_eq, Bool.not_eq_true, Bool.not_eq_false, Bool.true_eq_false, Bool.false_eq_true, not_or, Decidable.not_not, ne_eq] at c1
    try simp only [Int.toNat_natCast, dflt_i, dflt_b, dflt_l, dflt_p, Int.toNat_zero, gt_iff_lt, ge_iff_le] at c1
    refine aw_skip ?_
    refine aw_seq ?_
    refine aw_seq ?_
    refine aw_reg _ (by kernel_rfl) rfl ?_
    refine st (m := false) tabok rfl rfl rfl (by (repeat' apply And.intro); all_goals first | exact True.intro | rfl | omega | (simp only [inr]; omega) | (simp only [IntKind.bits]; omega) | exact fun h => h | (intro hq; rw [hq]; rfl) | (simp only [Int.toNat_natCast, dflt_i, dflt_b, dflt_l, dflt_p, Int.toNat_zero, gt_iff_lt, ge_iff_le]; omega) | (simp only [ti3, ti4, ti22, ti41]; omega) | (simp [ti3, ti4, ti22, ti41]; omega) | (simp_all; done) | (simp [SV.cellsL, SV.cells]; done) | (simp [SV.cellsL, SV.cells]; omega)) ?_
    refine ops_nil ?_
    refine aw_block ?_
    refine aw_loop (X := (Nat)) (fun (i : Nat) => outT (look [(2, .ptr 0 0 0), (5, .int .i64 i)])) (fun (i : Nat) => outS [.obj 0 24 0 [.row TI64 t.1, .int .i64 t.2.1, .int .i64 t.2.2]]) (fun (i : Nat) => (i ≤ t.1.length) ∧ (∀ j, j < i → 0 ≤ t.1.getD j 0 ∧ t.1.getD j 0 ≤ 1000)) (fun (i : Nat) => t.1.length - i) (0) ?_ ?_ ?_
    -- leaf L0:entry.1f
    · exact goes_to (tm := _) (st := _) [true] rfl rfl ⟨(by first | rfl | exact q_lst (by simp) | exact q_grow (by simp)), True.intro⟩ ⟨(by first | exact sk rfl rfl | exact sk (q_int (by omega)) rfl | exact sk (q_bool (by simp)) rfl | exact sk (q_view rfl rfl rfl (by omega)) rfl | exact sk (q_gview rfl (by simp)) rfl | exact sk (q_nil rfl) rfl | exact sk (q_row (by simp)) rfl | exact sk_g rfl rfl rfl rfl | exact sk_v rfl rfl rfl rfl rfl | exact sk_n rfl), (by first | exact sk rfl rfl | exact sk (q_int (by omega)) rfl | exact sk (q_bool (by simp)) rfl | exact sk (q_view rfl rfl rfl (by omega)) rfl | exact sk (q_gview rfl (by simp)) rfl | exact sk (q_nil rfl) rfl | exact sk (q_row (by simp)) rfl | exact sk_g rfl rfl rfl rfl | exact sk_v rfl rfl rfl rfl rfl | exact sk_n rfl), True.intro⟩
    · exact ⟨by omega, fun j hj => absurd hj (by omega)⟩
    · skip
      rintro i ⟨hi, hb⟩
      change awpB _ _ _ _ _ (outT (look [(2, .ptr 0 0 0), (5, .int .i64 i)])) (outS [.obj 0 24 0 [.row TI64 t.1, .int .i64 t.2.1, .int .i64 t.2.2]])
      refine aw_seq ?_
      refine aw_seq ?_
      refine aw_reg _ (by kernel_rfl) rfl ?_
      iterate 5 refine st (m := false) tabok rfl rfl rfl (by (repeat' apply And.intro); all_goals first | exact True.intro | rfl | omega | (simp only [inr]; omega) | (simp only [IntKind.bits]; omega) | exact fun h => h | (intro hq; rw [hq]; rfl) | (simp only [Int.toNat_natCast, dflt_i, dflt_b, dflt_l, dflt_p, Int.toNat_zero, gt_iff_lt, ge_iff_le]; omega) | (simp only [ti3, ti4, ti22, ti41]; omega) | (simp [ti3, ti4, ti22, ti41]; omega) | (simp_all; done) | (simp [SV.cellsL, SV.cells]; done) | (simp [SV.cellsL, SV.cells]; omega)) ?_
      refine ops_nil ?_
      refine aw_if rfl (fun c4 => ?_) (fun c4 => ?_)
      · try simp only [Bool.or_eq_true, Bool.and_eq_true, Bool.not_eq_true', Bool.not_eq_false', Bool.or_eq_false_iff, Bool.and_eq_false_imp, decide_eq_true_eq, decide_eq_false_iff_not, Bool.not_true, Bool.not_false, beq_iff_eq, Bool.not_eq_true, Bool.not_eq_false, Bool.true_eq_false, Bool.false_eq_true, not_or, Decidable.not_not, ne_eq] at c4
        try simp only [Int.toNat_natCast, dflt_i, dflt_b, dflt_l, dflt_p, Int.toNat_zero, gt_iff_lt, ge_iff_le] at c4
        refine aw_skip ?_
        refine aw_seq ?_
        refine aw_block ?_
        refine aw_seq ?_
        refine aw_reg _ (by kernel_rfl) rfl ?_
        iterate 7 refine st (m := false) tabok rfl rfl rfl (by (repeat' apply And.intro); all_goals first | exact True.intro | rfl | omega | (simp only [inr]; omega) | (simp only [IntKind.bits]; omega) | exact fun h => h | (intro hq; rw [hq]; rfl) | (simp only [Int.toNat_natCast, dflt_i, dflt_b, dflt_l, dflt_p, Int.toNat_zero, gt_iff_lt, ge_iff_le]; omega) | (simp only [ti3, ti4, ti22, ti41]; omega) | (simp [ti3, ti4, ti22, ti41]; omega) | (simp_all; done) | (simp [SV.cellsL, SV.cells]; done) | (simp [SV.cellsL, SV.cells]; omega)) ?_
        iterate 6 refine stg (m := false) tabok rfl rfl rfl rfl rfl (by intro hg; have hg0 := hg; (try simp only [Bool.or_eq_true, Bool.and_eq_true, Bool.not_eq_true', Bool.not_eq_false', Bool.or_eq_false_iff, Bool.and_eq_false_imp, decide_eq_true_eq, decide_eq_false_iff_not, Bool.not_true, Bool.not_false, beq_iff_eq, Bool.not_eq_true, Bool.not_eq_false, Bool.true_eq_false, Bool.false_eq_true, not_or, Decidable.not_not, ne_eq] at hg); (try simp only [Int.toNat_natCast, dflt_i, dflt_b, dflt_l, dflt_p, Int.toNat_zero, gt_iff_lt, ge_iff_le] at hg); (repeat' apply And.intro); all_goals first | exact hg0 | exact True.intro | rfl | omega | (simp only [inr]; omega) | (simp only [IntKind.bits]; omega) | (simp only [Bool.or_eq_true, Bool.and_eq_true, Bool.not_eq_true', Bool.not_eq_false', Bool.or_eq_false_iff, Bool.and_eq_false_imp, decide_eq_true_eq, decide_eq_false_iff_not, Bool.not_true, Bool.not_false, beq_iff_eq, Bool.not_eq_true, Bool.not_eq_false, Bool.true_eq_false, Bool.false_eq_true, not_or, Decidable.not_not, ne_eq]; omega) | (simp only [inr, Int.toNat_natCast, dflt_i, dflt_b, dflt_l, dflt_p, Int.toNat_zero, gt_iff_lt, ge_iff_le]; omega) | (simp only [Int.toNat_natCast, dflt_i, dflt_b, dflt_l, dflt_p, Int.toNat_zero, gt_iff_lt, ge_iff_le]; omega) | (simp only [Bool.or_eq_true, Bool.and_eq_true, Bool.not_eq_true', Bool.not_eq_false', Bool.or_eq_false_iff, Bool.and_eq_false_imp, decide_eq_true_eq, decide_eq_false_iff_not, Bool.not_true, Bool.not_false, beq_iff_eq, Bool.not_eq_true, Bool.not_eq_false, Bool.true_eq_false, Bool.false_eq_true, not_or, Decidable.not_not, ne_eq] at hg0 ⊢; simp_all; done) | (simp_all; done) | (simp_all; omega)) ?_
        refine st (m := false) tabok rfl rfl rfl (by (repeat' apply And.intro); all_goals first | exact True.intro | rfl | omega | (simp only [inr]; omega) | (simp only [IntKind.bits]; omega) | exact fun h => h | (intro hq; rw [hq]; rfl) | (simp only [Int.toNat_natCast, dflt_i, dflt_b, dflt_l, dflt_p, Int.toNat_zero, gt_iff_lt, ge_iff_le]; omega) | (simp only [ti3, ti4, ti22, ti41]; omega) | (simp [ti3, ti4, ti22, ti41]; omega) | (simp_all; done) | (simp [SV.cellsL, SV.cells]; done) | (simp [SV.cellsL, SV.cells]; omega)) ?_
        refine ops_nil ?_
        refine aw_if rfl (fun c6 => ?_) (fun c6 => ?_)
        · try simp only [Bool.or_eq_true, Bool.and_eq_true, Bool.not_eq_true', Bool.not_eq_false', Bool.or_eq_false_iff, Bool.and_eq_false_imp, decide_eq_true_eq, decide_eq_false_iff_not, Bool.not_true, Bool.not_false, beq_iff_eq, Bool.not_eq_true, Bool.not_eq_false, Bool.true_eq_false, Bool.false_eq_true, not_or, Decidable.not_not, ne_eq] at c6
          try simp only [Int.toNat_natCast, dflt_i, dflt_b, dflt_l, dflt_p, Int.toNat_zero, gt_iff_lt, ge_iff_le] at c6
          refine aw_seq ?_
          refine aw_reg _ (by kernel_rfl) rfl ?_
          refine st (m := false) tabok rfl rfl rfl (by (repeat' apply And.intro); all_goals first | exact True.intro | rfl | omega | (simp only [inr]; omega) | (simp only [IntKind.bits]; omega) | exact fun h => h | (intro hq; rw [hq]; rfl) | (simp only [Int.toNat_natCast, dflt_i, dflt_b, dflt_l, dflt_p, Int.toNat_zero, gt_iff_lt, ge_iff_le]; omega) | (simp only [ti3, ti4, ti22, ti41]; omega) | (simp [ti3, ti4, ti22, ti41]; omega) | (simp_all; done) | (simp [SV.cellsL, SV.cells]; done) | (simp [SV.cellsL, SV.cells]; omega)) ?_
          refine ops_nil ?_
          refine aw_ret ?_
          -- leaf ret.4t.6t
          refine ret_c ?_
          refine fs_ff ?_
          rw [Bool.eq_false_iff]
          intro hu
          obtain ⟨u1, u2, u3, u4, u5⟩ := usual_iff.1 hu
          have := u5 i (by omega)
          omega
        · try simp only [Bool.or_eq_true, Bool.and_eq_true, Bool.not_eq_true', Bool.not_eq_false', Bool.or_eq_false_iff, Bool.and_eq_false_imp, decide_eq_true_eq, decide_eq_false_iff_not, Bool.not_true, Bool.not_false, beq_iff_eq, Bool.not_eq_true, Bool.not_eq_false, Bool.true_eq_false, Bool.false_eq_true, not_or, Decidable.not_not, ne_eq] at c6
          try simp only [Int.toNat_natCast, dflt_i, dflt_b, dflt_l, dflt_p, Int.toNat_zero, gt_iff_lt, ge_iff_le] at c6
          refine aw_skip ?_
          refine aw_reg _ (by kernel_rfl) rfl ?_
          iterate 3 refine st (m := false) tabok rfl rfl rfl (by (repeat' apply And.intro); all_goals first | exact True.intro | rfl | omega | (simp only [inr]; omega) | (simp only [IntKind.bits]; omega) | exact fun h => h | (intro hq; rw [hq]; rfl) | (simp only [Int.toNat_natCast, dflt_i, dflt_b, dflt_l, dflt_p, Int.toNat_zero, gt_iff_lt, ge_iff_le]; omega) | (simp only [ti3, ti4, ti22, ti41]; omega) | (simp [ti3, ti4, ti22, ti41]; omega) | (simp_all; done) | (simp [SV.cellsL, SV.cells]; done) | (simp [SV.cellsL, SV.cells]; omega)) ?_
          refine ops_nil ?_
          -- leaf L0.4t.6f
          refine Exists.intro (i + 1) ⟨?_, ?_, ?_⟩
          · exact goes_to (tm := _) (st := _) [true] rfl rfl ⟨(by first | rfl | exact q_lst (by simp) | exact q_grow (by simp)), True.intro⟩ ⟨(by first | exact sk rfl rfl | exact sk (q_int (by omega)) rfl | exact sk (q_bool (by simp)) rfl | exact sk (q_view rfl rfl rfl (by omega)) rfl | exact sk (q_gview rfl (by simp)) rfl | exact sk (q_nil rfl) rfl | exact sk (q_row (by simp)) rfl | exact sk_g rfl rfl rfl rfl | exact sk_v rfl rfl rfl rfl rfl | exact sk_n rfl), (by first | exact sk rfl rfl | exact sk (q_int (by omega)) rfl | exact sk (q_bool (by simp)) rfl | exact sk (q_view rfl rfl rfl (by omega)) rfl | exact sk (q_gview rfl (by simp)) rfl | exact sk (q_nil rfl) rfl | exact sk (q_row (by simp)) rfl | exact sk_g rfl rfl rfl rfl | exact sk_v rfl rfl rfl rfl rfl | exact sk_n rfl), True.intro⟩
          · try dsimp only
            refine ⟨by omega, fun j hj => ?_⟩
            by_cases e : j = i
            · subst e; omega
            · exact hb j (by omega)
          · (try dsimp only); omega
      · try simp only [Bool.or_eq_true, Bool.and_eq_true, Bool.not_eq_true', Bool.not_eq_false', Bool.or_eq_false_iff, Bool.and_eq_false_imp, decide_eq_true_eq, decide_eq_false_iff_not, Bool.not_true, Bool.not_false, beq_iff_eq, Bool.not_eq_true, Bool.not_eq_false, Bool.true_eq_false, Bool.false_eq_true, not_or, Decidable.not_not, ne_eq] at c4
        try simp only [Int.toNat_natCast, dflt_i, dflt_b, dflt_l, dflt_p, Int.toNat_zero, gt_iff_lt, ge_iff_le] at c4
        refine aw_exit ?_
        refine aw_seq ?_
        refine aw_reg _ (by kernel_rfl) rfl ?_
        refine st (m := false) tabok rfl rfl rfl (by (repeat' apply And.intro); all_goals first | exact True.intro | rfl | omega | (simp only [inr]; omega) | (simp only [IntKind.bits]; omega) | exact fun h => h | (intro hq; rw [hq]; rfl) | (simp only [Int.toNat_natCast, dflt_i, dflt_b, dflt_l, dflt_p, Int.toNat_zero, gt_iff_lt, ge_iff_le]; omega) | (simp only [ti3, ti4, ti22, ti41]; omega) | (simp [ti3, ti4, ti22, ti41]; omega) | (simp_all; done) | (simp [SV.cellsL, SV.cells]; done) | (simp [SV.cellsL, SV.cells]; omega)) ?_
        refine ops_nil ?_
        refine aw_ret ?_
        -- leaf ret.4f
        refine ret_c ?_
        refine fs_tt (usual_iff.2 ⟨?_, ?_, ?_, ?_, fun j hj => hb j (by omega)⟩)
        · exact c1.1.1.1.1.1.1
        · have := c1.1.1.1.1.1.2; omega
        · exact c1.1.1.1.1.2
        · omega
end Go.Sim
end
section
namespace Go.Sim
open Go Go.Proofs
set_option maxRecDepth 10000
set_option autoImplicit false
set_option linter.unusedSimpArgs false
set_option linter.unusedVariables false
def fitsS (t : Task) (m : List Mix) (p : List Int) : Bool :=
  decide (planS p m = 0) && (decide (sizesS m = t.1.length) && ((List.range (sizesS m)).all (fun i => decide (t.1.getD i 0 ≤ made p m i m.length ∧ made p m i m.length - t.1.getD i 0 ≤ t.2.1)) && p.all fun n => decide (n ≤ t.2.2)))
theorem fits_iff {t : Task} {m : List Mix} {p : List Int} : fitsS t m p = true ↔ planS p m = 0 ∧ sizesS m = t.1.length ∧ (∀ i, i < sizesS m → t.1.getD i 0 ≤ made p m i m.length ∧ made p m i m.length - t.1.getD i 0 ≤ t.2.1) ∧ ∀ i, i < p.length → p.getD i 0 ≤ t.2.2 := by
  simp only [fitsS, Bool.and_eq_true, decide_eq_true_eq, List.all_eq_true, List.mem_range]
  constructor
  · rintro ⟨h1, h2, h3, h4⟩
    refine ⟨h1, h2, h3, fun i hi => ?_⟩
    rw [getD_at 0 hi]
    exact h4 _ (List.getElem_mem hi)
  · rintro ⟨h1, h2, h3, h4⟩
    refine ⟨h1, h2, h3, fun x hx => ?_⟩
    obtain ⟨i, hi, e⟩ := List.getElem_of_mem hx
    have := h4 i hi
    rw [getD_at 0 hi, e] at this
    exact this
theorem prodS_of {p : List Int} {m : List Mix} (h : planS p m = 0) : prodS p m = prodL p m := by simp [prodS, h]
theorem prodL_len {p : List Int} {m : List Mix} : (prodL p m).length = sizesS m := by simp [prodL]
theorem prodL_get {p : List Int} {m : List Mix} {i : Nat} (h : i < sizesS m) : (prodL p m).getD i 0 = made p m i m.length := getD_map_range _ _ h
theorem fits_ok (t : Task) (m : List Mix) (p : List Int) (hm : BigM m) (hp : Big p.length) (ht : ∀ i, i < t.1.length → 0 ≤ t.1.getD i 0 ∧ t.1.getD i 0 ≤ 1000) : CS Try.prog 12 [taskS t, .row TMix m, .row TI64 p] (.bool (fitsS t m p)) := by
  have hp' := hp
  unfold Big at hp'
  refine fn_c [6] Try.func12 Try.ntmps12 rfl rfl rfl rfl ?_
  refine aw_seq ?_
  refine aw_reg _ (by kernel_rfl) rfl ?_
  iterate 2 refine st (m := false) tabok rfl rfl rfl (by (repeat' apply And.intro); all_goals first | exact True.intro | rfl | omega | (simp only [inr]; omega) | (simp only [IntKind.bits]; omega) | exact fun h => h | (intro hq; rw [hq]; rfl) | (simp only [Int.toNat_natCast, dflt_i, dflt_b, dflt_l, dflt_p, Int.toNat_zero, gt_iff_lt, ge_iff_le]; omega) | (simp only [ti3, ti4, ti22, ti41]; omega) | (simp [ti3, ti4, ti22, ti41]; omega) | (simp_all; done) | (simp [SV.cellsL, SV.cells]; done) | (simp [SV.cellsL, SV.cells]; omega)) ?_
  refine ops_nil ?_
  refine aw_seq ?_
  refine aw_reg _ (by kernel_rfl) rfl ?_
  iterate 2 refine st (m := false) tabok rfl rfl rfl (by (repeat' apply And.intro); all_goals first | exact True.intro | rfl | omega | (simp only [inr]; omega) | (simp only [IntKind.bits]; omega) | exact fun h => h | (intro hq; rw [hq]; rfl) | (simp only [Int.toNat_natCast, dflt_i, dflt_b, dflt_l, dflt_p, Int.toNat_zero, gt_iff_lt, ge_iff_le]; omega) | (simp only [ti3, ti4, ti22, ti41]; omega) | (simp [ti3, ti4, ti22, ti41]; omega) | (simp_all; done) | (simp [SV.cellsL, SV.cells]; done) | (simp [SV.cellsL, SV.cells]; omega)) ?_
  refine sc (produced_ok p m hm hp) rfl rfl (by kernel_rfl) rfl (by kernel_rfl) (.cons (by first | exact argw_same | exact argw_nil | exact argw_tt | exact argw_ff | exact argw_eq rfl) (.cons (by first | exact argw_same | exact argw_nil | exact argw_tt | exact argw_ff | exact argw_eq rfl) .nil)) ?_
  iterate 5 refine st (m := false) tabok rfl rfl rfl (by (repeat' apply And.intro); all_goals first | exact True.intro | rfl | omega | (simp only [inr]; omega) | (simp only [IntKind.bits]; omega) | exact fun h => h | (intro hq; rw [hq]; rfl) | (simp only [Int.toNat_natCast, dflt_i, dflt_b, dflt_l, dflt_p, Int.toNat_zero, gt_iff_lt, ge_iff_le]; omega) | (simp only [ti3, ti4, ti22, ti41]; omega) | (simp [ti3, ti4, ti22, ti41]; omega) | (simp_all; done) | (simp [SV.cellsL, SV.cells]; done) | (simp [SV.cellsL, SV.cells]; omega)) ?_
  refine ops_nil ?_
  refine aw_seq ?_
  refine aw_seq ?_
  refine aw_reg _ (by kernel_rfl) rfl ?_
  iterate 3 refine st (m := false) tabok rfl rfl rfl (by (repeat' apply And.intro); all_goals first | exact True.intro | rfl | omega | (simp only [inr]; omega) | (simp only [IntKind.bits]; omega) | exact fun h => h | (intro hq; rw [hq]; rfl) | (simp only [Int.toNat_natCast, dflt_i, dflt_b, dflt_l, dflt_p, Int.toNat_zero, gt_iff_lt, ge_iff_le]; omega) | (simp only [ti3, ti4, ti22, ti41]; omega) | (simp [ti3, ti4, ti22, ti41]; omega) | (simp_all; done) | (simp [SV.cellsL, SV.cells]; done) | (simp [SV.cellsL, SV.cells]; omega)) ?_
  iterate 6 refine stg (m := false) tabok rfl rfl rfl rfl rfl (by intro hg; have hg0 := hg; (try simp only [Bool.or_eq_true, Bool.and_eq_true, Bool.not_eq_true', Bool.not_eq_false', Bool.or_eq_false_iff, Bool.and_eq_false_imp, decide_eq_true_eq, decide_eq_false_iff_not, Bool.not_true, Bool.not_false, beq_iff_eq, Bool.not_eq_true, Bool.not_eq_false, Bool.true_eq_false, Bool.false_eq_true, not_or, Decidable.not_not, ne_eq] at hg); (try simp only [Int.toNat_natCast, dflt_i, dflt_b, dflt_l, dflt_p, Int.toNat_zero, gt_iff_lt, ge_iff_le] at hg); (repeat' apply And.intro); all_goals first | exact hg0 | exact True.intro | rfl | omega | (simp only [inr]; omega) | (simp only [IntKind.bits]; omega) | (simp only [Bool.or_eq_true, Bool.and_eq_true, Bool.not_eq_true', Bool.not_eq_false', Bool.or_eq_false_iff, Bool.and_eq_false_imp, decide_eq_true_eq, decide_eq_false_iff_not, Bool.not_true, Bool.not_false, beq_iff_eq, Bool.not_eq_true, Bool.not_eq_false, Bool.true_eq_false, Bool.false_eq_true, not_or, Decidable.not_not, ne_eq]; omega) | (simp only [inr, Int.toNat_natCast, dflt_i, dflt_b, dflt_l, dflt_p, Int.toNat_zero, gt_iff_lt, ge_iff_le]; omega) | (simp only [Int.toNat_natCast, dflt_i, dflt_b, dflt_l, dflt_p, Int.toNat_zero, gt_iff_lt, ge_iff_le]; omega) | (simp only [Bool.or_eq_true, Bool.and_eq_true, Bool.not_eq_true', Bool.not_eq_false', Bool.or_eq_false_iff, Bool.and_eq_false_imp, decide_eq_true_eq, decide_eq_false_iff_not, Bool.not_true, Bool.not_false, beq_iff_eq, Bool.not_eq_true, Bool.not_eq_false, Bool.true_eq_false, Bool.false_eq_true, not_or, Decidable.not_not, ne_eq] at hg0 ⊢; simp_all; done) | (simp_all; done) | (simp_all; omega)) ?_
  refine st (m := false) tabok rfl rfl rfl (by (repeat' apply And.intro); all_goals first | exact True.intro | rfl | omega | (simp only [inr]; omega) | (simp only [IntKind.bits]; omega) | exact fun h => h | (intro hq; rw [hq]; rfl) | (simp only [Int.toNat_natCast, dflt_i, dflt_b, dflt_l, dflt_p, Int.toNat_zero, gt_iff_lt, ge_iff_le]; omega) | (simp only [ti3, ti4, ti22, ti41]; omega) | (simp [ti3, ti4, ti22, ti41]; omega) | (simp_all; done) | (simp [SV.cellsL, SV.cells]; done) | (simp [SV.cellsL, SV.cells]; omega)) ?_
  refine ops_nil ?_
  refine aw_if rfl (fun c2 => ?_) (fun c2 => ?_)
  · try simp only [Bool.or_eq_true, Bool.and_eq_true, Bool.not_eq_true', Bool.not_eq_false', Bool.or_eq_false_iff, Bool.and_eq_false_imp, decide_eq_true_eq, decide_eq_false_iff_not, Bool.not_true, Bool.not_false, beq_iff_eq, Bool.not_eq_true, Bool.not_eq_false, Bool.true_eq_false, Bool.false_eq_true, not_or, Decidable.not_not, ne_eq] at c2
    try simp only [Int.toNat_natCast, dflt_i, dflt_b, dflt_l, dflt_p, Int.toNat_zero, gt_iff_lt, ge_iff_le] at c2
    refine aw_seq ?_
    refine aw_reg _ (by kernel_rfl) rfl ?_
    refine st (m := false) tabok rfl rfl rfl (by (repeat' apply And.intro); all_goals first | exact True.intro | rfl | omega | (simp only [inr]; omega) | (simp only [IntKind.bits]; omega) | exact fun h => h | (intro hq; rw [hq]; rfl) | (simp only [Int.toNat_natCast, dflt_i, dflt_b, dflt_l, dflt_p, Int.toNat_zero, gt_iff_lt, ge_iff_le]; omega) | (simp only [ti3, ti4, ti22, ti41]; omega) | (simp [ti3, ti4, ti22, ti41]; omega) | (simp_all; done) | (simp [SV.cellsL, SV.cells]; done) | (simp [SV.cellsL, SV.cells]; omega)) ?_
    refine ops_nil ?_
    refine aw_ret ?_
    -- leaf ret.2t
    refine ret_c ?_
    refine fs_ff ?_
    rw [Bool.eq_false_iff]
    intro hu
    obtain ⟨u1, u2, u3, u4⟩ := fits_iff.1 hu
    rw [prodS_of u1, prodL_len] at c2
    omega
  · try simp only [Bool.or_eq_true, Bool.and_eq_true, Bool.not_eq_true', Bool.not_eq_false', Bool.or_eq_false_iff, Bool.and_eq_false_imp, decide_eq_true_eq, decide_eq_false_iff_not, Bool.not_true, Bool.not_false, beq_iff_eq, Bool.not_eq_true, Bool.not_eq_false, Bool.true_eq_false, Bool.false_eq_true, not_or, Decidable.not_not, ne_eq] at c2
    try simp only [Int.toNat_natCast, dflt_i, dflt_b, dflt_l, dflt_p, Int.toNat_zero, gt_iff_lt, ge_iff_le] at c2
    have hpl : planS p m = 0 := by omega
    have hP := plies_of hpl
    have hS := hP.fine.wid
    have hM := hP.fine.len
    have e1 := prodS_of hpl
    have e2 : (prodL p m).length = t.1.length := by rw [← e1]; omega
    have e3 := prodL_len (p := p) (m := m)
    refine aw_skip ?_
    refine aw_seq ?_
    refine aw_seq ?_
    refine aw_reg _ (by kernel_rfl) rfl ?_
    refine st (m := false) tabok rfl rfl rfl (by (repeat' apply And.intro); all_goals first | exact True.intro | rfl | omega | (simp only [inr]; omega) | (simp only [IntKind.bits]; omega) | exact fun h => h | (intro hq; rw [hq]; rfl) | (simp only [Int.toNat_natCast, dflt_i, dflt_b, dflt_l, dflt_p, Int.toNat_zero, gt_iff_lt, ge_iff_le]; omega) | (simp only [ti3, ti4, ti22, ti41]; omega) | (simp [ti3, ti4, ti22, ti41]; omega) | (simp_all; done) | (simp [SV.cellsL, SV.cells]; done) | (simp [SV.cellsL, SV.cells]; omega)) ?_
    refine ops_nil ?_
    refine aw_block ?_
    refine aw_loop (X := (Nat)) (fun (i : Nat) => outT (look [(2, .row TI64 p), (3, .ptr 0 0 0), (7, .row TI64 (prodL p m)), (9, .int .i64 i)])) (fun (i : Nat) => outS [.obj 0 24 0 [.row TI64 t.1, .int .i64 t.2.1, .int .i64 t.2.2]]) (fun (i : Nat) => (i ≤ sizesS m) ∧ (∀ j, j < i → t.1.getD j 0 ≤ made p m j m.length ∧ made p m j m.length - t.1.getD j 0 ≤ t.2.1)) (fun (i : Nat) => sizesS m - i) (0) ?_ ?_ ?_
    -- leaf L0:entry.2f
    · exact goes_to (tm := _) (st := _) [true] rfl rfl ⟨(by first | rfl | exact q_lst (by simp) | exact q_grow (by simp)), True.intro⟩ ⟨(by first | exact sk rfl rfl | exact sk (q_int (by omega)) rfl | exact sk (q_bool (by simp)) rfl | exact sk (q_view rfl rfl rfl (by omega)) rfl | exact sk (q_gview rfl (by simp)) rfl | exact sk (q_nil rfl) rfl | exact sk (q_row (by simp)) rfl | exact sk_g rfl rfl rfl rfl | exact sk_v rfl rfl rfl rfl rfl | exact sk_n rfl), (by first | exact sk rfl rfl | exact sk (q_int (by omega)) rfl | exact sk (q_bool (by simp)) rfl | exact sk (q_view rfl rfl rfl (by omega)) rfl | exact sk (q_gview rfl (by simp)) rfl | exact sk (q_nil rfl) rfl | exact sk (q_row (by simp)) rfl | exact sk_g rfl rfl rfl rfl | exact sk_v rfl rfl rfl rfl rfl | exact sk_n rfl), (by refine sk ?_ rfl; exact q_row e1), (by first | exact sk rfl rfl | exact sk (q_int (by omega)) rfl | exact sk (q_bool (by simp)) rfl | exact sk (q_view rfl rfl rfl (by omega)) rfl | exact sk (q_gview rfl (by simp)) rfl | exact sk (q_nil rfl) rfl | exact sk (q_row (by simp)) rfl | exact sk_g rfl rfl rfl rfl | exact sk_v rfl rfl rfl rfl rfl | exact sk_n rfl), True.intro⟩
    · exact ⟨by omega, fun j hj => absurd hj (by omega)⟩
    · skip
      rintro i ⟨hi, hb⟩
      change awpB _ _ _ _ _ (outT (look [(2, .row TI64 p), (3, .ptr 0 0 0), (7, .row TI64 (prodL p m)), (9, .int .i64 i)])) (outS [.obj 0 24 0 [.row TI64 t.1, .int .i64 t.2.1, .int .i64 t.2.2]])
      refine aw_seq ?_
      refine aw_seq ?_
      refine aw_reg _ (by kernel_rfl) rfl ?_
      iterate 4 refine st (m := false) tabok rfl rfl rfl (by (repeat' apply And.intro); all_goals first | exact True.intro | rfl | omega | (simp only [inr]; omega) | (simp only [IntKind.bits]; omega) | exact fun h => h | (intro hq; rw [hq]; rfl) | (simp only [Int.toNat_natCast, dflt_i, dflt_b, dflt_l, dflt_p, Int.toNat_zero, gt_iff_lt, ge_iff_le]; omega) | (simp only [ti3, ti4, ti22, ti41]; omega) | (simp [ti3, ti4, ti22, ti41]; omega) | (simp_all; done) | (simp [SV.cellsL, SV.cells]; done) | (simp [SV.cellsL, SV.cells]; omega)) ?_
      refine ops_nil ?_
      refine aw_if rfl (fun c5 => ?_) (fun c5 => ?_)
      · try simp only [Bool.or_eq_true, Bool.and_eq_true, Bool.not_eq_true', Bool.not_eq_false', Bool.or_eq_false_iff, Bool.and_eq_false_imp, decide_eq_true_eq, decide_eq_false_iff_not, Bool.not_true, Bool.not_false, beq_iff_eq, Bool.not_eq_true, Bool.not_eq_false, Bool.true_eq_false, Bool.false_eq_true, not_or, Decidable.not_not, ne_eq] at c5
        try simp only [Int.toNat_natCast, dflt_i, dflt_b, dflt_l, dflt_p, Int.toNat_zero, gt_iff_lt, ge_iff_le] at c5
        have h0 : i < sizesS m := by omega
        have h1 := ht i (by omega)
        have h2 := made_le hP h0 m.length (Nat.le_refl _)
        have h3 := prodL_get (p := p) h0
        refine aw_skip ?_
        refine aw_seq ?_
        refine aw_block ?_
        refine aw_seq ?_
        refine aw_regD true _ (by kernel_rfl) (by kernel_rfl) (by kernel_rfl) rfl ?_
        iterate 11 refine sd (m := false) tabok rfl rfl rfl (by (repeat' apply And.intro); all_goals first | exact True.intro | rfl | omega | (simp only [inr]; omega) | (simp only [IntKind.bits]; omega) | exact fun h => h | (intro hq; rw [hq]; rfl) | (simp only [Int.toNat_natCast, dflt_i, dflt_b, dflt_l, dflt_p, Int.toNat_zero, gt_iff_lt, ge_iff_le]; omega) | (simp only [ti3, ti4, ti22, ti41]; omega) | (simp [ti3, ti4, ti22, ti41]; omega) | (simp_all; done) | (simp [SV.cellsL, SV.cells]; done) | (simp [SV.cellsL, SV.cells]; omega)) ?_
        iterate 13 refine sdg (m := false) tabok rfl rfl rfl rfl rfl (by intro hg; have hg0 := hg; (try simp only [Bool.or_eq_true, Bool.and_eq_true, Bool.not_eq_true', Bool.not_eq_false', Bool.or_eq_false_iff, Bool.and_eq_false_imp, decide_eq_true_eq, decide_eq_false_iff_not, Bool.not_true, Bool.not_false, beq_iff_eq, Bool.not_eq_true, Bool.not_eq_false, Bool.true_eq_false, Bool.false_eq_true, not_or, Decidable.not_not, ne_eq] at hg); (try simp only [Int.toNat_natCast, dflt_i, dflt_b, dflt_l, dflt_p, Int.toNat_zero, gt_iff_lt, ge_iff_le] at hg); (repeat' apply And.intro); all_goals first | exact hg0 | exact True.intro | rfl | omega | (simp only [inr]; omega) | (simp only [IntKind.bits]; omega) | (simp only [Bool.or_eq_true, Bool.and_eq_true, Bool.not_eq_true', Bool.not_eq_false', Bool.or_eq_false_iff, Bool.and_eq_false_imp, decide_eq_true_eq, decide_eq_false_iff_not, Bool.not_true, Bool.not_false, beq_iff_eq, Bool.not_eq_true, Bool.not_eq_false, Bool.true_eq_false, Bool.false_eq_true, not_or, Decidable.not_not, ne_eq]; omega) | (simp only [inr, Int.toNat_natCast, dflt_i, dflt_b, dflt_l, dflt_p, Int.toNat_zero, gt_iff_lt, ge_iff_le]; omega) | (simp only [Int.toNat_natCast, dflt_i, dflt_b, dflt_l, dflt_p, Int.toNat_zero, gt_iff_lt, ge_iff_le]; omega) | (simp only [Bool.or_eq_true, Bool.and_eq_true, Bool.not_eq_true', Bool.not_eq_false', Bool.or_eq_false_iff, Bool.and_eq_false_imp, decide_eq_true_eq, decide_eq_false_iff_not, Bool.not_true, Bool.not_false, beq_iff_eq, Bool.not_eq_true, Bool.not_eq_false, Bool.true_eq_false, Bool.false_eq_true, not_or, Decidable.not_not, ne_eq] at hg0 ⊢; simp_all; done) | (simp_all; done) | (simp_all; omega)) ?_
        refine sd (m := false) tabok rfl rfl rfl (by (repeat' apply And.intro); all_goals first | exact True.intro | rfl | omega | (simp only [inr]; omega) | (simp only [IntKind.bits]; omega) | exact fun h => h | (intro hq; rw [hq]; rfl) | (simp only [Int.toNat_natCast, dflt_i, dflt_b, dflt_l, dflt_p, Int.toNat_zero, gt_iff_lt, ge_iff_le]; omega) | (simp only [ti3, ti4, ti22, ti41]; omega) | (simp [ti3, ti4, ti22, ti41]; omega) | (simp_all; done) | (simp [SV.cellsL, SV.cells]; done) | (simp [SV.cellsL, SV.cells]; omega)) ?_
        refine opd_nil ?_
        refine aw_if rfl (fun c7 => ?_) (fun c7 => ?_)
        · try simp only [Bool.or_eq_true, Bool.and_eq_true, Bool.not_eq_true', Bool.not_eq_false', Bool.or_eq_false_iff, Bool.and_eq_false_imp, decide_eq_true_eq, decide_eq_false_iff_not, Bool.not_true, Bool.not_false, beq_iff_eq, Bool.not_eq_true, Bool.not_eq_false, Bool.true_eq_false, Bool.false_eq_true, not_or, Decidable.not_not, ne_eq] at c7
          try simp only [Int.toNat_natCast, dflt_i, dflt_b, dflt_l, dflt_p, Int.toNat_zero, gt_iff_lt, ge_iff_le] at c7
          refine aw_seq ?_
          refine aw_reg _ (by kernel_rfl) rfl ?_
          refine st (m := false) tabok rfl rfl rfl (by (repeat' apply And.intro); all_goals first | exact True.intro | rfl | omega | (simp only [inr]; omega) | (simp only [IntKind.bits]; omega) | exact fun h => h | (intro hq; rw [hq]; rfl) | (simp only [Int.toNat_natCast, dflt_i, dflt_b, dflt_l, dflt_p, Int.toNat_zero, gt_iff_lt, ge_iff_le]; omega) | (simp only [ti3, ti4, ti22, ti41]; omega) | (simp [ti3, ti4, ti22, ti41]; omega) | (simp_all; done) | (simp [SV.cellsL, SV.cells]; done) | (simp [SV.cellsL, SV.cells]; omega)) ?_
          refine ops_nil ?_
          refine aw_ret ?_
          -- leaf ret.5t.7t
          refine ret_c ?_
          refine fs_ff ?_
          rw [Bool.eq_false_iff]
          intro hu
          obtain ⟨u1, u2, u3, u4⟩ := fits_iff.1 hu
          have := u3 i (by omega)
          omega
        · try simp only [Bool.or_eq_true, Bool.and_eq_true, Bool.not_eq_true', Bool.not_eq_false', Bool.or_eq_false_iff, Bool.and_eq_false_imp, decide_eq_true_eq, decide_eq_false_iff_not, Bool.not_true, Bool.not_false, beq_iff_eq, Bool.not_eq_true, Bool.not_eq_false, Bool.true_eq_false, Bool.false_eq_true, not_or, Decidable.not_not, ne_eq] at c7
          try simp only [Int.toNat_natCast, dflt_i, dflt_b, dflt_l, dflt_p, Int.toNat_zero, gt_iff_lt, ge_iff_le] at c7
          refine aw_skip ?_
          refine aw_reg _ (by kernel_rfl) rfl ?_
          iterate 3 refine st (m := false) tabok rfl rfl rfl (by (repeat' apply And.intro); all_goals first | exact True.intro | rfl | omega | (simp only [inr]; omega) | (simp only [IntKind.bits]; omega) | exact fun h => h | (intro hq; rw [hq]; rfl) | (simp only [Int.toNat_natCast, dflt_i, dflt_b, dflt_l, dflt_p, Int.toNat_zero, gt_iff_lt, ge_iff_le]; omega) | (simp only [ti3, ti4, ti22, ti41]; omega) | (simp [ti3, ti4, ti22, ti41]; omega) | (simp_all; done) | (simp [SV.cellsL, SV.cells]; done) | (simp [SV.cellsL, SV.cells]; omega)) ?_
          refine ops_nil ?_
          -- leaf L0.5t.7f
          refine Exists.intro (i + 1) ⟨?_, ?_, ?_⟩
          · exact goes_to (tm := _) (st := _) [true] rfl rfl ⟨(by first | rfl | exact q_lst (by simp) | exact q_grow (by simp)), True.intro⟩ ⟨(by first | exact sk rfl rfl | exact sk (q_int (by omega)) rfl | exact sk (q_bool (by simp)) rfl | exact sk (q_view rfl rfl rfl (by omega)) rfl | exact sk (q_gview rfl (by simp)) rfl | exact sk (q_nil rfl) rfl | exact sk (q_row (by simp)) rfl | exact sk_g rfl rfl rfl rfl | exact sk_v rfl rfl rfl rfl rfl | exact sk_n rfl), (by first | exact sk rfl rfl | exact sk (q_int (by omega)) rfl | exact sk (q_bool (by simp)) rfl | exact sk (q_view rfl rfl rfl (by omega)) rfl | exact sk (q_gview rfl (by simp)) rfl | exact sk (q_nil rfl) rfl | exact sk (q_row (by simp)) rfl | exact sk_g rfl rfl rfl rfl | exact sk_v rfl rfl rfl rfl rfl | exact sk_n rfl), (by first | exact sk rfl rfl | exact sk (q_int (by omega)) rfl | exact sk (q_bool (by simp)) rfl | exact sk (q_view rfl rfl rfl (by omega)) rfl | exact sk (q_gview rfl (by simp)) rfl | exact sk (q_nil rfl) rfl | exact sk (q_row (by simp)) rfl | exact sk_g rfl rfl rfl rfl | exact sk_v rfl rfl rfl rfl rfl | exact sk_n rfl), (by first | exact sk rfl rfl | exact sk (q_int (by omega)) rfl | exact sk (q_bool (by simp)) rfl | exact sk (q_view rfl rfl rfl (by omega)) rfl | exact sk (q_gview rfl (by simp)) rfl | exact sk (q_nil rfl) rfl | exact sk (q_row (by simp)) rfl | exact sk_g rfl rfl rfl rfl | exact sk_v rfl rfl rfl rfl rfl | exact sk_n rfl), True.intro⟩
          · try dsimp only
            refine ⟨by omega, fun j hj => ?_⟩
            by_cases e : j = i
            · subst e; omega
            · exact hb j (by omega)
          · (try dsimp only); omega
      · try simp only [Bool.or_eq_true, Bool.and_eq_true, Bool.not_eq_true', Bool.not_eq_false', Bool.or_eq_false_iff, Bool.and_eq_false_imp, decide_eq_true_eq, decide_eq_false_iff_not, Bool.not_true, Bool.not_false, beq_iff_eq, Bool.not_eq_true, Bool.not_eq_false, Bool.true_eq_false, Bool.false_eq_true, not_or, Decidable.not_not, ne_eq] at c5
        try simp only [Int.toNat_natCast, dflt_i, dflt_b, dflt_l, dflt_p, Int.toNat_zero, gt_iff_lt, ge_iff_le] at c5
        refine aw_exit ?_
        refine aw_seq ?_
        refine aw_seq ?_
        refine aw_reg _ (by kernel_rfl) rfl ?_
        refine st (m := false) tabok rfl rfl rfl (by (repeat' apply And.intro); all_goals first | exact True.intro | rfl | omega | (simp only [inr]; omega) | (simp only [IntKind.bits]; omega) | exact fun h => h | (intro hq; rw [hq]; rfl) | (simp only [Int.toNat_natCast, dflt_i, dflt_b, dflt_l, dflt_p, Int.toNat_zero, gt_iff_lt, ge_iff_le]; omega) | (simp only [ti3, ti4, ti22, ti41]; omega) | (simp [ti3, ti4, ti22, ti41]; omega) | (simp_all; done) | (simp [SV.cellsL, SV.cells]; done) | (simp [SV.cellsL, SV.cells]; omega)) ?_
        refine ops_nil ?_
        refine aw_block ?_
        refine aw_loop (X := (Nat)) (fun (i : Nat) => outT (look [(2, .row TI64 p), (3, .ptr 0 0 0), (10, .int .i64 i)])) (fun (i : Nat) => outS [.obj 0 24 0 [.row TI64 t.1, .int .i64 t.2.1, .int .i64 t.2.2]]) (fun (i : Nat) => (i ≤ p.length) ∧ (∀ j, j < i → p.getD j 0 ≤ t.2.2)) (fun (i : Nat) => p.length - i) (0) ?_ ?_ ?_
        -- leaf L1:entry.5f
        · exact goes_to (tm := _) (st := _) [true] rfl rfl ⟨(by first | rfl | exact q_lst (by simp) | exact q_grow (by simp)), True.intro⟩ ⟨(by first | exact sk rfl rfl | exact sk (q_int (by omega)) rfl | exact sk (q_bool (by simp)) rfl | exact sk (q_view rfl rfl rfl (by omega)) rfl | exact sk (q_gview rfl (by simp)) rfl | exact sk (q_nil rfl) rfl | exact sk (q_row (by simp)) rfl | exact sk_g rfl rfl rfl rfl | exact sk_v rfl rfl rfl rfl rfl | exact sk_n rfl), (by first | exact sk rfl rfl | exact sk (q_int (by omega)) rfl | exact sk (q_bool (by simp)) rfl | exact sk (q_view rfl rfl rfl (by omega)) rfl | exact sk (q_gview rfl (by simp)) rfl | exact sk (q_nil rfl) rfl | exact sk (q_row (by simp)) rfl | exact sk_g rfl rfl rfl rfl | exact sk_v rfl rfl rfl rfl rfl | exact sk_n rfl), (by first | exact sk rfl rfl | exact sk (q_int (by omega)) rfl | exact sk (q_bool (by simp)) rfl | exact sk (q_view rfl rfl rfl (by omega)) rfl | exact sk (q_gview rfl (by simp)) rfl | exact sk (q_nil rfl) rfl | exact sk (q_row (by simp)) rfl | exact sk_g rfl rfl rfl rfl | exact sk_v rfl rfl rfl rfl rfl | exact sk_n rfl), True.intro⟩
        · exact ⟨by omega, fun j hj => absurd hj (by omega)⟩
        · skip
          rintro i ⟨hi, hb2⟩
          change awpB _ _ _ _ _ (outT (look [(2, .row TI64 p), (3, .ptr 0 0 0), (10, .int .i64 i)])) (outS [.obj 0 24 0 [.row TI64 t.1, .int .i64 t.2.1, .int .i64 t.2.2]])
          refine aw_seq ?_
          refine aw_seq ?_
          refine aw_reg _ (by kernel_rfl) rfl ?_
          iterate 4 refine st (m := false) tabok rfl rfl rfl (by (repeat' apply And.intro); all_goals first | exact True.intro | rfl | omega | (simp only [inr]; omega) | (simp only [IntKind.bits]; omega) | exact fun h => h | (intro hq; rw [hq]; rfl) | (simp only [Int.toNat_natCast, dflt_i, dflt_b, dflt_l, dflt_p, Int.toNat_zero, gt_iff_lt, ge_iff_le]; omega) | (simp only [ti3, ti4, ti22, ti41]; omega) | (simp [ti3, ti4, ti22, ti41]; omega) | (simp_all; done) | (simp [SV.cellsL, SV.cells]; done) | (simp [SV.cellsL, SV.cells]; omega)) ?_
          refine ops_nil ?_
          refine aw_if rfl (fun c10 => ?_) (fun c10 => ?_)
          · try simp only [Bool.or_eq_true, Bool.and_eq_true, Bool.not_eq_true', Bool.not_eq_false', Bool.or_eq_false_iff, Bool.and_eq_false_imp, decide_eq_true_eq, decide_eq_false_iff_not, Bool.not_true, Bool.not_false, beq_iff_eq, Bool.not_eq_true, Bool.not_eq_false, Bool.true_eq_false, Bool.false_eq_true, not_or, Decidable.not_not, ne_eq] at c10
            try simp only [Int.toNat_natCast, dflt_i, dflt_b, dflt_l, dflt_p, Int.toNat_zero, gt_iff_lt, ge_iff_le] at c10
            refine aw_skip ?_
            refine aw_seq ?_
            refine aw_block ?_
            refine aw_seq ?_
            refine aw_regD true _ (by kernel_rfl) (by kernel_rfl) (by kernel_rfl) rfl ?_
            iterate 7 refine sd (m := false) tabok rfl rfl rfl (by (repeat' apply And.intro); all_goals first | exact True.intro | rfl | omega | (simp only [inr]; omega) | (simp only [IntKind.bits]; omega) | exact fun h => h | (intro hq; rw [hq]; rfl) | (simp only [Int.toNat_natCast, dflt_i, dflt_b, dflt_l, dflt_p, Int.toNat_zero, gt_iff_lt, ge_iff_le]; omega) | (simp only [ti3, ti4, ti22, ti41]; omega) | (simp [ti3, ti4, ti22, ti41]; omega) | (simp_all; done) | (simp [SV.cellsL, SV.cells]; done) | (simp [SV.cellsL, SV.cells]; omega)) ?_
            refine opd_nil ?_
            refine aw_if rfl (fun c12 => ?_) (fun c12 => ?_)
            · try simp only [Bool.or_eq_true, Bool.and_eq_true, Bool.not_eq_true', Bool.not_eq_false', Bool.or_eq_false_iff, Bool.and_eq_false_imp, decide_eq_true_eq, decide_eq_false_iff_not, Bool.not_true, Bool.not_false, beq_iff_eq, Bool.not_eq_true, Bool.not_eq_false, Bool.true_eq_false, Bool.false_eq_true, not_or, Decidable.not_not, ne_eq] at c12
              try simp only [Int.toNat_natCast, dflt_i, dflt_b, dflt_l, dflt_p, Int.toNat_zero, gt_iff_lt, ge_iff_le] at c12
              refine aw_seq ?_
              refine aw_reg _ (by kernel_rfl) rfl ?_
              refine st (m := false) tabok rfl rfl rfl (by (repeat' apply And.intro); all_goals first | exact True.intro | rfl | omega | (simp only [inr]; omega) | (simp only [IntKind.bits]; omega) | exact fun h => h | (intro hq; rw [hq]; rfl) | (simp only [Int.toNat_natCast, dflt_i, dflt_b, dflt_l, dflt_p, Int.toNat_zero, gt_iff_lt, ge_iff_le]; omega) | (simp only [ti3, ti4, ti22, ti41]; omega) | (simp [ti3, ti4, ti22, ti41]; omega) | (simp_all; done) | (simp [SV.cellsL, SV.cells]; done) | (simp [SV.cellsL, SV.cells]; omega)) ?_
              refine ops_nil ?_
              refine aw_ret ?_
              -- leaf ret.10t.12t
              refine ret_c ?_
              refine fs_ff ?_
              rw [Bool.eq_false_iff]
              intro hu
              obtain ⟨u1, u2, u3, u4⟩ := fits_iff.1 hu
              have := u4 i (by omega)
              omega
            · try simp only [Bool.or_eq_true, Bool.and_eq_true, Bool.not_eq_true', Bool.not_eq_false', Bool.or_eq_false_iff, Bool.and_eq_false_imp, decide_eq_true_eq, decide_eq_false_iff_not, Bool.not_true, Bool.not_false, beq_iff_eq, Bool.not_eq_true, Bool.not_eq_false, Bool.true_eq_false, Bool.false_eq_true, not_or, Decidable.not_not, ne_eq] at c12
              try simp only [Int.toNat_natCast, dflt_i, dflt_b, dflt_l, dflt_p, Int.toNat_zero, gt_iff_lt, ge_iff_le] at c12
              refine aw_skip ?_
              refine aw_reg _ (by kernel_rfl) rfl ?_
              iterate 3 refine st (m := false) tabok rfl rfl rfl (by (repeat' apply And.intro); all_goals first | exact True.intro | rfl | omega | (simp only [inr]; omega) | (simp only [IntKind.bits]; omega) | exact fun h => h | (intro hq; rw [hq]; rfl) | (simp only [Int.toNat_natCast, dflt_i, dflt_b, dflt_l, dflt_p, Int.toNat_zero, gt_iff_lt, ge_iff_le]; omega) | (simp only [ti3, ti4, ti22, ti41]; omega) | (simp [ti3, ti4, ti22, ti41]; omega) | (simp_all; done) | (simp [SV.cellsL, SV.cells]; done) | (simp [SV.cellsL, SV.cells]; omega)) ?_
              refine ops_nil ?_
              -- leaf L1.10t.12f
              refine Exists.intro (i + 1) ⟨?_, ?_, ?_⟩
              · exact goes_to (tm := _) (st := _) [true] rfl rfl ⟨(by first | rfl | exact q_lst (by simp) | exact q_grow (by simp)), True.intro⟩ ⟨(by first | exact sk rfl rfl | exact sk (q_int (by omega)) rfl | exact sk (q_bool (by simp)) rfl | exact sk (q_view rfl rfl rfl (by omega)) rfl | exact sk (q_gview rfl (by simp)) rfl | exact sk (q_nil rfl) rfl | exact sk (q_row (by simp)) rfl | exact sk_g rfl rfl rfl rfl | exact sk_v rfl rfl rfl rfl rfl | exact sk_n rfl), (by first | exact sk rfl rfl | exact sk (q_int (by omega)) rfl | exact sk (q_bool (by simp)) rfl | exact sk (q_view rfl rfl rfl (by omega)) rfl | exact sk (q_gview rfl (by simp)) rfl | exact sk (q_nil rfl) rfl | exact sk (q_row (by simp)) rfl | exact sk_g rfl rfl rfl rfl | exact sk_v rfl rfl rfl rfl rfl | exact sk_n rfl), (by first | exact sk rfl rfl | exact sk (q_int (by omega)) rfl | exact sk (q_bool (by simp)) rfl | exact sk (q_view rfl rfl rfl (by omega)) rfl | exact sk (q_gview rfl (by simp)) rfl | exact sk (q_nil rfl) rfl | exact sk (q_row (by simp)) rfl | exact sk_g rfl rfl rfl rfl | exact sk_v rfl rfl rfl rfl rfl | exact sk_n rfl), True.intro⟩
              · try dsimp only
                refine ⟨by omega, fun j hj => ?_⟩
                by_cases e : j = i
                · subst e; omega
                · exact hb2 j (by omega)
              · (try dsimp only); omega
          · try simp only [Bool.or_eq_true, Bool.and_eq_true, Bool.not_eq_true', Bool.not_eq_false', Bool.or_eq_false_iff, Bool.and_eq_false_imp, decide_eq_true_eq, decide_eq_false_iff_not, Bool.not_true, Bool.not_false, beq_iff_eq, Bool.not_eq_true, Bool.not_eq_false, Bool.true_eq_false, Bool.false_eq_true, not_or, Decidable.not_not, ne_eq] at c10
            try simp only [Int.toNat_natCast, dflt_i, dflt_b, dflt_l, dflt_p, Int.toNat_zero, gt_iff_lt, ge_iff_le] at c10
            refine aw_exit ?_
            refine aw_seq ?_
            refine aw_reg _ (by kernel_rfl) rfl ?_
            refine st (m := false) tabok rfl rfl rfl (by (repeat' apply And.intro); all_goals first | exact True.intro | rfl | omega | (simp only [inr]; omega) | (simp only [IntKind.bits]; omega) | exact fun h => h | (intro hq; rw [hq]; rfl) | (simp only [Int.toNat_natCast, dflt_i, dflt_b, dflt_l, dflt_p, Int.toNat_zero, gt_iff_lt, ge_iff_le]; omega) | (simp only [ti3, ti4, ti22, ti41]; omega) | (simp [ti3, ti4, ti22, ti41]; omega) | (simp_all; done) | (simp [SV.cellsL, SV.cells]; done) | (simp [SV.cellsL, SV.cells]; omega)) ?_
            refine ops_nil ?_
            refine aw_ret ?_
            -- leaf ret.10f
            refine ret_c ?_
            exact fs_tt (fits_iff.2 ⟨hpl, by omega, fun j hj => hb j (by omega), fun j hj => hb2 j (by omega)⟩)
theorem made_sum' (p : List Int) (m : List Mix) (s : Nat) : ∀ n, made p m s n = sumN (fun j => p.getD j 0 * nOf m j s) n
  | 0 => rfl
  | n + 1 => by rw [made, made_sum' p m s n]; rfl
theorem cost_sum' (p : List Int) (m : List Mix) : ∀ n, cost p m n = sumN (fun j => p.getD j 0 * lOf m j) n
  | 0 => rfl
  | n + 1 => by rw [cost, cost_sum' p m n]; rfl
theorem costS_of {p : List Int} {m : List Mix} (h : planS p m = 0) : costS p m = costF m fun j => p.getD j 0 := by
  rw [costS, if_pos h, cost_sum']
  rfl
theorem within_of {l : List Int} {k : Int} (h : ∀ i, i < l.length → 0 ≤ l.getD i 0 ∧ l.getD i 0 ≤ k) : withinS l k = true := by
  rw [withinS, Bool.not_eq_true']
  rw [Bool.eq_false_iff]
  intro ha
  rw [List.any_eq_true] at ha
  obtain ⟨x, hx, h2⟩ := ha
  obtain ⟨i, hi, e⟩ := List.getElem_of_mem hx
  have h3 := h i hi
  rw [getD_at 0 hi, e] at h3
  simp only [inB, Bool.or_eq_true, decide_eq_true_eq] at h2
  omega
theorem plan_iff {p : List Int} {m : List Mix} (hc : checkS m = 0) : planS p m = 0 ↔ p.length = m.length ∧ ∀ j, j < m.length → 0 ≤ p.getD j 0 ∧ p.getD j 0 ≤ 40 := by
  constructor
  · intro h
    have := plies_of h
    exact ⟨this.len, this.rng⟩
  · rintro ⟨h1, h2⟩
    unfold planS
    rw [if_neg (by omega), if_neg (by omega), if_neg]
    rw [within_of fun i hi => h2 i (by omega)]
    simp
theorem fits_plan {o : List Int} {m : List Mix} {ov mo : Int} (hc : checkS m = 0) (hl : o.length = sizesS m) (hmo : mo ≤ 40) {p : List Int} : fitsS (o, ov, mo) m p = true ↔ p.length = m.length ∧ Pl m mo (fun j => p.getD j 0) ∧ Fe m o ov (fun j => p.getD j 0) := by
  rw [fits_iff, plan_iff hc]
  constructor
  · rintro ⟨⟨h1, h2⟩, h3, h4, h5⟩
    refine ⟨h1, fun j hj => ⟨(h2 j hj).1, h5 j (by omega)⟩, fun i hi => ?_⟩
    have := h4 i (by omega)
    have e : madeF m (fun j => p.getD j 0) i = made p m i m.length := (made_sum' p m i _).symm
    dsimp only at this
    omega
  · rintro ⟨h1, h2, h3⟩
    refine ⟨⟨h1, fun j hj => by have := h2 j hj; dsimp only at this; omega⟩, hl.symm, fun i hi => ?_, fun i hi => (h2 i (by omega)).2⟩
    have := h3 i (by omega)
    have e : madeF m (fun j => p.getD j 0) i = made p m i m.length := (made_sum' p m i _).symm
    dsimp only
    omega
theorem before_first {a b : List Int} : beforeS a b = true → ∃ i, i < a.length ∧ i < b.length ∧ (∀ j, j < i → a.getD j 0 = b.getD j 0) ∧ a.getD i 0 < b.getD i 0 := by
  induction a generalizing b with
  | nil => intro h; simp [beforeS] at h
  | cons x a ih =>
    cases b with
    | nil => intro h; simp [beforeS] at h
    | cons y b =>
      intro h
      rw [beforeS] at h
      split at h
      · rename_i e
        subst e
        obtain ⟨i, h1, h2, h3, h4⟩ := ih h
        refine ⟨i + 1, by simpa using h1, by simpa using h2, fun j hj => ?_, by simpa using h4⟩
        cases j with
        | zero => rfl
        | succ j => simpa using h3 j (by omega)
      · exact ⟨0, by simp, by simp, fun j hj => by omega, by simpa using h⟩
theorem before_rk {m : List Mix} {mo : Int} {p q : List Int} (hp : Pl m mo fun j => p.getD j 0) (hq : Pl m mo fun j => q.getD j 0) (hlp : p.length = m.length) (h : beforeS q p = true) : rk (mo.toNat + 1) (fun j => q.getD j 0) m.length < rk (mo.toNat + 1) (fun j => p.getD j 0) m.length := by
  obtain ⟨i, h1, h2, h3, h4⟩ := before_first h
  have a1 := (rk_mid (a := 0) (n := i + 1) (M := m.length) (by omega) (pl_dig hq)).1
  have a2 := (rk_mid (a := 0) (n := i + 1) (M := m.length) (by omega) (pl_dig hp)).2
  have e : rk (mo.toNat + 1) (fun j => q.getD j 0) i = rk (mo.toNat + 1) (fun j => p.getD j 0) i := rk_congr h3
  have h5 : rk (mo.toNat + 1) (fun j => q.getD j 0) (i + 1) + 1 ≤ rk (mo.toNat + 1) (fun j => p.getD j 0) (i + 1) := by
    simp only [rk]
    rw [e]
    have := hq i (by omega)
    have := hp i (by omega)
    dsimp only at *
    omega
  have := Nat.mul_le_mul_right ((mo.toNat + 1) ^ (m.length - (i + 1))) h5
  omega
theorem solve_any (m : List Mix) (o : List Int) (ov mo : Int) : ∃ nb b le, Okc o m ov mo → m ≠ [] → Opt m o ov mo ((mo.toNat + 1) ^ m.length) nb b le := by
  by_cases h : Okc o m ov mo ∧ m ≠ []
  · obtain ⟨nb, b, le, hO⟩ := opt_ex (tsk_of h.1 h.2)
    exact ⟨nb, b, le, fun _ _ => hO⟩
  · exact ⟨true, [], 0, fun h1 h2 => absurd ⟨h1, h2⟩ h⟩
theorem okc_of {o : List Int} {m : List Mix} {ov mo : Int} (h1 : checkS m = 0) (h2 : o.length = sizesS m) (h3 : ∀ i, i < o.length → 0 ≤ o.getD i 0 ∧ o.getD i 0 ≤ 1000) (h4 : 0 ≤ ov ∧ ov ≤ 1000) (h5 : 0 ≤ mo ∧ mo ≤ 40) : Okc o m ov mo :=
  ⟨h1, h2, within_of h3, within_of fun i hi => by simp at hi; subst hi; exact h4, within_of fun i hi => by simp at hi; subst hi; exact h5⟩
/-- What Solve's answer says. -/
structure Ans (o : List Int) (m : List Mix) (ov mo : Int) (p : List Int) (e : Int) : Prop where
  nil : e ≠ 0 → p = []
  bad : e = 18 → ∀ q, fitsS (o, ov, mo) m q = false
  good : e = 0 → fitsS (o, ov, mo) m p = true ∧ planS p m = 0 ∧ ∀ q, fitsS (o, ov, mo) m q = true → planS q m = 0 ∧ (costS p m < costS q m ∨ (costS p m = costS q m ∧ beforeS q p = false))
  some : ∀ q, fitsS (o, ov, mo) m q = true → e = 0
theorem check_vals (m : List Mix) : checkS m = 0 ∨ checkS m = 5 ∨ checkS m = 1 := by
  unfold checkS
  split
  · exact .inr (.inl rfl)
  · split
    · exact .inl rfl
    · exact .inr (.inr rfl)
theorem fits_check {t : Task} {m : List Mix} {q : List Int} (h : fitsS t m q = true) : checkS m = 0 := by
  have := (fits_iff.1 h).1
  unfold planS at this
  split at this
  · rename_i h1; exact absurd this h1
  · rename_i h1; omega
theorem ans_ok {o : List Int} {m : List Mix} {ov mo : Int} (h3 : ∀ i, i < o.length → 0 ≤ o.getD i 0 ∧ o.getD i 0 ≤ 1000) (h4 : 0 ≤ ov ∧ ov ≤ 1000) (h5 : 0 ≤ mo ∧ mo ≤ 40) {nb : Bool} {b : List Int} {le : Int} (hO : Okc o m ov mo → m ≠ [] → Opt m o ov mo ((mo.toNat + 1) ^ m.length) nb b le) :
    Ans o m ov mo (solveB o m ov mo nb b) (solveE o m ov mo nb) := by
  have hcv := check_vals m
  by_cases hc : checkS m = 0
  · by_cases hl : o.length = sizesS m
    · have hok := okc_of hc hl h3 h4 h5
      by_cases hne : m = []
      · have e : solveE o m ov mo nb = 0 := by
          unfold solveE
          rw [if_neg (by omega), if_neg (by omega), if_neg (by simp [hok.w1, hok.w2, hok.w3]), if_pos hne]
        have eb : solveB o m ov mo nb b = [] := by simp [solveB, hne]
        rw [e, eb]
        have hf : fitsS (o, ov, mo) m [] = true := (fits_plan hc hl h5.2).2 ⟨by simp [hne], fun j hj => by simp [hne] at hj, fun i hi => by simp [hne, sizesS] at hl; subst hl; simp at hi⟩
        refine ⟨fun h => absurd rfl h, fun h => by simp at h, fun _ => ⟨hf, (fits_iff.1 hf).1, fun q hq => ?_⟩, fun _ _ => rfl⟩
        have hql := ((fits_plan hc hl h5.2).1 hq).1
        have : q = [] := List.eq_nil_of_length_eq_zero (by rw [hql, hne]; rfl)
        subst this
        exact ⟨(fits_iff.1 hq).1, .inr ⟨rfl, rfl⟩⟩
      · have hOp := hO hok hne
        cases nb with
        | true =>
          have e : solveE o m ov mo true = 18 := by
            unfold solveE
            rw [if_neg (by omega), if_neg (by omega), if_neg (by simp [hok.w1, hok.w2, hok.w3]), if_neg hne, if_pos rfl]
          have eb : solveB o m ov mo true b = [] := by simp [solveB, e]
          rw [e, eb]
          have hno : ∀ q, fitsS (o, ov, mo) m q = true → False := fun q hq => by
            obtain ⟨q1, q2, q3⟩ := (fits_plan hc hl h5.2).1 hq
            have := (hOp.all _ q2 q3 (pl_rk q2)).1
            cases this
          exact ⟨fun _ => rfl, fun _ q => by rw [Bool.eq_false_iff]; exact hno q, fun h => by simp at h, fun q hq => (hno q hq).elim⟩
        | false =>
          have e : solveE o m ov mo false = 0 := by
            unfold solveE
            rw [if_neg (by omega), if_neg (by omega), if_neg (by simp [hok.w1, hok.w2, hok.w3]), if_neg hne, if_neg (by simp)]
          have eb : solveB o m ov mo false b = b := by simp [solveB, e, hne]
          rw [e, eb]
          obtain ⟨g1, g2, g3, g4, g5⟩ := hOp.is rfl
          have hf : fitsS (o, ov, mo) m b = true := (fits_plan hc hl h5.2).2 ⟨g4, g1, g2⟩
          have hpb := (fits_iff.1 hf).1
          refine ⟨fun h => absurd rfl h, fun h => by simp at h, fun _ => ⟨hf, hpb, fun q hq => ?_⟩, fun _ _ => rfl⟩
          obtain ⟨q1, q2, q3⟩ := (fits_plan hc hl h5.2).1 hq
          have hpq := (fits_iff.1 hq).1
          refine ⟨hpq, ?_⟩
          rw [costS_of hpb, costS_of hpq, g3]
          rcases (hOp.all _ q2 q3 (pl_rk q2)).2 with h | ⟨h, h'⟩
          · exact .inl h
          · refine .inr ⟨h, ?_⟩
            rw [Bool.eq_false_iff]
            intro hbf
            have := before_rk g1 q2 g4 hbf
            omega
    · have e : solveE o m ov mo nb = 1 := by
        unfold solveE
        rw [if_neg (by omega), if_pos hl]
      have eb : solveB o m ov mo nb b = [] := by simp [solveB, e]
      rw [e, eb]
      exact ⟨fun _ => rfl, fun h => by simp at h, fun h => by simp at h, fun q hq => absurd (fits_iff.1 hq).2.1.symm hl⟩
  · have e : solveE o m ov mo nb = checkS m := by
      unfold solveE
      rw [if_pos hc]
    have eb : solveB o m ov mo nb b = [] := by simp [solveB, e, hc]
    rw [e, eb]
    exact ⟨fun _ => rfl, fun h => by omega, fun h => absurd h hc, fun q hq => absurd (fits_check hq) hc⟩
end Go.Sim
end
section
namespace Go.Sim
open Go Go.Proofs
set_option maxRecDepth 10000
set_option autoImplicit false
set_option linter.unusedSimpArgs false
set_option linter.unusedVariables false
theorem solve_ans (o : List Int) (m : List Mix) (ov mo : Int) (hm : BigM m) (ho : o.length ≤ 1000) (h3 : ∀ i, i < o.length → 0 ≤ o.getD i 0 ∧ o.getD i 0 ≤ 1000) (h4 : 0 ≤ ov ∧ ov ≤ 1000) (h5 : 0 ≤ mo ∧ mo ≤ 40) :
    ∃ p e, Ans o m ov mo p e ∧ CS Try.prog 10 [.row TI64 o, .row TMix m, .int .i64 ov, .int .i64 mo] (.tup [.row TI64 p, .int .i64 e]) := by
  obtain ⟨nb, b, le, hO⟩ := solve_any m o ov mo
  exact ⟨_, _, ans_ok h3 h4 h5 hO, solve_ok hm (by unfold Big; omega) hO⟩
theorem big_of {l : List Int} (h : l.length ≤ 1000) : Big l.length := by unfold Big; omega
theorem plan_len6 {p : List Int} {m : List Mix} (h : planS p m = 0) : p.length ≤ 6 := by
  have := plies_of h
  have := this.len
  have := (plies_of h).fine.len
  omega
theorem optimal_ok (t : Task) (m : List Mix) (q : List Int) : CS Try.prog 3 [taskS t, .row TMix m, .row TI64 q] (.bool true) := by
  refine fn_c [6] Try.func3 Try.ntmps3 rfl rfl rfl rfl ?_
  refine aw_seq ?_
  refine aw_reg _ (by kernel_rfl) rfl ?_
  iterate 2 refine st (m := false) tabok rfl rfl rfl (by (repeat' apply And.intro); all_goals first | exact True.intro | rfl | omega | (simp only [inr]; omega) | (simp only [IntKind.bits]; omega) | exact fun h => h | (intro hq; rw [hq]; rfl) | (simp only [Int.toNat_natCast, dflt_i, dflt_b, dflt_l, dflt_p, Int.toNat_zero, gt_iff_lt, ge_iff_le]; omega) | (simp only [ti3, ti4, ti22, ti41]; omega) | (simp [ti3, ti4, ti22, ti41]; omega) | (simp_all; done) | (simp [SV.cellsL, SV.cells]; done) | (simp [SV.cellsL, SV.cells]; omega)) ?_
  refine ops_nil ?_
  refine aw_seq ?_
  refine aw_seq ?_
  refine aw_reg _ (by kernel_rfl) rfl ?_
  iterate 2 refine st (m := false) tabok rfl rfl rfl (by (repeat' apply And.intro); all_goals first | exact True.intro | rfl | omega | (simp only [inr]; omega) | (simp only [IntKind.bits]; omega) | exact fun h => h | (intro hq; rw [hq]; rfl) | (simp only [Int.toNat_natCast, dflt_i, dflt_b, dflt_l, dflt_p, Int.toNat_zero, gt_iff_lt, ge_iff_le]; omega) | (simp only [ti3, ti4, ti22, ti41]; omega) | (simp [ti3, ti4, ti22, ti41]; omega) | (simp_all; done) | (simp [SV.cellsL, SV.cells]; done) | (simp [SV.cellsL, SV.cells]; omega)) ?_
  refine sc (usual_ok t m (fun h => (light_big h).1.1)) rfl rfl (by kernel_rfl) rfl (by kernel_rfl) (.cons (by first | exact argw_same | exact argw_nil | exact argw_tt | exact argw_ff | exact argw_eq rfl) (.cons (by first | exact argw_same | exact argw_nil | exact argw_tt | exact argw_ff | exact argw_eq rfl) .nil)) ?_
  iterate 2 refine st (m := false) tabok rfl rfl rfl (by (repeat' apply And.intro); all_goals first | exact True.intro | rfl | omega | (simp only [inr]; omega) | (simp only [IntKind.bits]; omega) | exact fun h => h | (intro hq; rw [hq]; rfl) | (simp only [Int.toNat_natCast, dflt_i, dflt_b, dflt_l, dflt_p, Int.toNat_zero, gt_iff_lt, ge_iff_le]; omega) | (simp only [ti3, ti4, ti22, ti41]; omega) | (simp [ti3, ti4, ti22, ti41]; omega) | (simp_all; done) | (simp [SV.cellsL, SV.cells]; done) | (simp [SV.cellsL, SV.cells]; omega)) ?_
  iterate 3 refine stg (m := false) tabok rfl rfl rfl rfl rfl (by intro hg; have hg0 := hg; (try simp only [Bool.or_eq_true, Bool.and_eq_true, Bool.not_eq_true', Bool.not_eq_false', Bool.or_eq_false_iff, Bool.and_eq_false_imp, decide_eq_true_eq, decide_eq_false_iff_not, Bool.not_true, Bool.not_false, beq_iff_eq, Bool.not_eq_true, Bool.not_eq_false, Bool.true_eq_false, Bool.false_eq_true, not_or, Decidable.not_not, ne_eq] at hg); (try simp only [Int.toNat_natCast, dflt_i, dflt_b, dflt_l, dflt_p, Int.toNat_zero, gt_iff_lt, ge_iff_le] at hg); (repeat' apply And.intro); all_goals first | exact hg0 | exact True.intro | rfl | omega | (simp only [inr]; omega) | (simp only [IntKind.bits]; omega) | (simp only [Bool.or_eq_true, Bool.and_eq_true, Bool.not_eq_true', Bool.not_eq_false', Bool.or_eq_false_iff, Bool.and_eq_false_imp, decide_eq_true_eq, decide_eq_false_iff_not, Bool.not_true, Bool.not_false, beq_iff_eq, Bool.not_eq_true, Bool.not_eq_false, Bool.true_eq_false, Bool.false_eq_true, not_or, Decidable.not_not, ne_eq]; omega) | (simp only [inr, Int.toNat_natCast, dflt_i, dflt_b, dflt_l, dflt_p, Int.toNat_zero, gt_iff_lt, ge_iff_le]; omega) | (simp only [Int.toNat_natCast, dflt_i, dflt_b, dflt_l, dflt_p, Int.toNat_zero, gt_iff_lt, ge_iff_le]; omega) | (simp only [Bool.or_eq_true, Bool.and_eq_true, Bool.not_eq_true', Bool.not_eq_false', Bool.or_eq_false_iff, Bool.and_eq_false_imp, decide_eq_true_eq, decide_eq_false_iff_not, Bool.not_true, Bool.not_false, beq_iff_eq, Bool.not_eq_true, Bool.not_eq_false, Bool.true_eq_false, Bool.false_eq_true, not_or, Decidable.not_not, ne_eq] at hg0 ⊢; simp_all; done) | (simp_all; done) | (simp_all; omega)) ?_
  refine st (m := false) tabok rfl rfl rfl (by (repeat' apply And.intro); all_goals first | exact True.intro | rfl | omega | (simp only [inr]; omega) | (simp only [IntKind.bits]; omega) | exact fun h => h | (intro hq; rw [hq]; rfl) | (simp only [Int.toNat_natCast, dflt_i, dflt_b, dflt_l, dflt_p, Int.toNat_zero, gt_iff_lt, ge_iff_le]; omega) | (simp only [ti3, ti4, ti22, ti41]; omega) | (simp [ti3, ti4, ti22, ti41]; omega) | (simp_all; done) | (simp [SV.cellsL, SV.cells]; done) | (simp [SV.cellsL, SV.cells]; omega)) ?_
  refine ops_nil ?_
  refine aw_if rfl (fun c1 => ?_) (fun c1 => ?_)
  · try simp only [Bool.or_eq_true, Bool.and_eq_true, Bool.not_eq_true', Bool.not_eq_false', Bool.or_eq_false_iff, Bool.and_eq_false_imp, decide_eq_true_eq, decide_eq_false_iff_not, Bool.not_true, Bool.not_false, beq_iff_eq, Bool.not_eq_true, Bool.not_eq_false, Bool.true_eq_false, Bool.false_eq_true, not_or, Decidable.not_not, ne_eq] at c1
    try simp only [Int.toNat_natCast, dflt_i, dflt_b, dflt_l, dflt_p, Int.toNat_zero, gt_iff_lt, ge_iff_le] at c1
    refine aw_seq ?_
    refine aw_reg _ (by kernel_rfl) rfl ?_
    refine sc (alive_ok) rfl rfl (by kernel_rfl) rfl (by kernel_rfl) .nil ?_
    refine st (m := false) tabok rfl rfl rfl (by (repeat' apply And.intro); all_goals first | exact True.intro | rfl | omega | (simp only [inr]; omega) | (simp only [IntKind.bits]; omega) | exact fun h => h | (intro hq; rw [hq]; rfl) | (simp only [Int.toNat_natCast, dflt_i, dflt_b, dflt_l, dflt_p, Int.toNat_zero, gt_iff_lt, ge_iff_le]; omega) | (simp only [ti3, ti4, ti22, ti41]; omega) | (simp [ti3, ti4, ti22, ti41]; omega) | (simp_all; done) | (simp [SV.cellsL, SV.cells]; done) | (simp [SV.cellsL, SV.cells]; omega)) ?_
    refine ops_nil ?_
    refine aw_ret ?_
    -- leaf ret.1t
    refine ret_c ?_
    first | exact fs rfl | exact fs_tt (by simp_all) | exact fs_ff (by simp_all) | exact fs_bool (by simp_all) | exact fs_int (by simp_all) | exact fs_nil (by simp_all)
  · try simp only [Bool.or_eq_true, Bool.and_eq_true, Bool.not_eq_true', Bool.not_eq_false', Bool.or_eq_false_iff, Bool.and_eq_false_imp, decide_eq_true_eq, decide_eq_false_iff_not, Bool.not_true, Bool.not_false, beq_iff_eq, Bool.not_eq_true, Bool.not_eq_false, Bool.true_eq_false, Bool.false_eq_true, not_or, Decidable.not_not, ne_eq] at c1
    try simp only [Int.toNat_natCast, dflt_i, dflt_b, dflt_l, dflt_p, Int.toNat_zero, gt_iff_lt, ge_iff_le] at c1
    obtain ⟨u1, u2, u3, u4, u5⟩ := usual_iff.1 c1.1
    have hBM := (light_big u1).1
    have hq := big_of (l := q) (by omega)
    obtain ⟨p, e, hA, hC⟩ := solve_ans t.1 m t.2.1 t.2.2 hBM (by omega) u5 (by omega) (by omega)
    refine aw_skip ?_
    refine aw_seq ?_
    refine aw_reg _ (by kernel_rfl) rfl ?_
    iterate 7 refine st (m := false) tabok rfl rfl rfl (by (repeat' apply And.intro); all_goals first | exact True.intro | rfl | omega | (simp only [inr]; omega) | (simp only [IntKind.bits]; omega) | exact fun h => h | (intro hq; rw [hq]; rfl) | (simp only [Int.toNat_natCast, dflt_i, dflt_b, dflt_l, dflt_p, Int.toNat_zero, gt_iff_lt, ge_iff_le]; omega) | (simp only [ti3, ti4, ti22, ti41]; omega) | (simp [ti3, ti4, ti22, ti41]; omega) | (simp_all; done) | (simp [SV.cellsL, SV.cells]; done) | (simp [SV.cellsL, SV.cells]; omega)) ?_
    refine sc (hC) rfl rfl (by kernel_rfl) rfl (by kernel_rfl) (.cons (by first | exact argw_same | exact argw_nil | exact argw_tt | exact argw_ff | exact argw_eq rfl) (.cons (by first | exact argw_same | exact argw_nil | exact argw_tt | exact argw_ff | exact argw_eq rfl) (.cons (by first | exact argw_same | exact argw_nil | exact argw_tt | exact argw_ff | exact argw_eq rfl) (.cons (by first | exact argw_same | exact argw_nil | exact argw_tt | exact argw_ff | exact argw_eq rfl) .nil)))) ?_
    iterate 5 refine st (m := false) tabok rfl rfl rfl (by (repeat' apply And.intro); all_goals first | exact True.intro | rfl | omega | (simp only [inr]; omega) | (simp only [IntKind.bits]; omega) | exact fun h => h | (intro hq; rw [hq]; rfl) | (simp only [Int.toNat_natCast, dflt_i, dflt_b, dflt_l, dflt_p, Int.toNat_zero, gt_iff_lt, ge_iff_le]; omega) | (simp only [ti3, ti4, ti22, ti41]; omega) | (simp [ti3, ti4, ti22, ti41]; omega) | (simp_all; done) | (simp [SV.cellsL, SV.cells]; done) | (simp [SV.cellsL, SV.cells]; omega)) ?_
    refine ops_nil ?_
    refine aw_seq ?_
    refine aw_reg _ (by kernel_rfl) rfl ?_
    iterate 2 refine st (m := false) tabok rfl rfl rfl (by (repeat' apply And.intro); all_goals first | exact True.intro | rfl | omega | (simp only [inr]; omega) | (simp only [IntKind.bits]; omega) | exact fun h => h | (intro hq; rw [hq]; rfl) | (simp only [Int.toNat_natCast, dflt_i, dflt_b, dflt_l, dflt_p, Int.toNat_zero, gt_iff_lt, ge_iff_le]; omega) | (simp only [ti3, ti4, ti22, ti41]; omega) | (simp [ti3, ti4, ti22, ti41]; omega) | (simp_all; done) | (simp [SV.cellsL, SV.cells]; done) | (simp [SV.cellsL, SV.cells]; omega)) ?_
    refine sc (produced_ok q m hBM hq) rfl rfl (by kernel_rfl) rfl (by kernel_rfl) (.cons (by first | exact argw_same | exact argw_nil | exact argw_tt | exact argw_ff | exact argw_eq rfl) (.cons (by first | exact argw_same | exact argw_nil | exact argw_tt | exact argw_ff | exact argw_eq rfl) .nil)) ?_
    iterate 5 refine st (m := false) tabok rfl rfl rfl (by (repeat' apply And.intro); all_goals first | exact True.intro | rfl | omega | (simp only [inr]; omega) | (simp only [IntKind.bits]; omega) | exact fun h => h | (intro hq; rw [hq]; rfl) | (simp only [Int.toNat_natCast, dflt_i, dflt_b, dflt_l, dflt_p, Int.toNat_zero, gt_iff_lt, ge_iff_le]; omega) | (simp only [ti3, ti4, ti22, ti41]; omega) | (simp [ti3, ti4, ti22, ti41]; omega) | (simp_all; done) | (simp [SV.cellsL, SV.cells]; done) | (simp [SV.cellsL, SV.cells]; omega)) ?_
    refine ops_nil ?_
    refine aw_seq ?_
    refine aw_reg _ (by kernel_rfl) rfl ?_
    iterate 3 refine st (m := false) tabok rfl rfl rfl (by (repeat' apply And.intro); all_goals first | exact True.intro | rfl | omega | (simp only [inr]; omega) | (simp only [IntKind.bits]; omega) | exact fun h => h | (intro hq; rw [hq]; rfl) | (simp only [Int.toNat_natCast, dflt_i, dflt_b, dflt_l, dflt_p, Int.toNat_zero, gt_iff_lt, ge_iff_le]; omega) | (simp only [ti3, ti4, ti22, ti41]; omega) | (simp [ti3, ti4, ti22, ti41]; omega) | (simp_all; done) | (simp [SV.cellsL, SV.cells]; done) | (simp [SV.cellsL, SV.cells]; omega)) ?_
    iterate 3 refine stg (m := false) tabok rfl rfl rfl rfl rfl (by intro hg; have hg0 := hg; (try simp only [Bool.or_eq_true, Bool.and_eq_true, Bool.not_eq_true', Bool.not_eq_false', Bool.or_eq_false_iff, Bool.and_eq_false_imp, decide_eq_true_eq, decide_eq_false_iff_not, Bool.not_true, Bool.not_false, beq_iff_eq, Bool.not_eq_true, Bool.not_eq_false, Bool.true_eq_false, Bool.false_eq_true, not_or, Decidable.not_not, ne_eq] at hg); (try simp only [Int.toNat_natCast, dflt_i, dflt_b, dflt_l, dflt_p, Int.toNat_zero, gt_iff_lt, ge_iff_le] at hg); (repeat' apply And.intro); all_goals first | exact hg0 | exact True.intro | rfl | omega | (simp only [inr]; omega) | (simp only [IntKind.bits]; omega) | (simp only [Bool.or_eq_true, Bool.and_eq_true, Bool.not_eq_true', Bool.not_eq_false', Bool.or_eq_false_iff, Bool.and_eq_false_imp, decide_eq_true_eq, decide_eq_false_iff_not, Bool.not_true, Bool.not_false, beq_iff_eq, Bool.not_eq_true, Bool.not_eq_false, Bool.true_eq_false, Bool.false_eq_true, not_or, Decidable.not_not, ne_eq]; omega) | (simp only [inr, Int.toNat_natCast, dflt_i, dflt_b, dflt_l, dflt_p, Int.toNat_zero, gt_iff_lt, ge_iff_le]; omega) | (simp only [Int.toNat_natCast, dflt_i, dflt_b, dflt_l, dflt_p, Int.toNat_zero, gt_iff_lt, ge_iff_le]; omega) | (simp only [Bool.or_eq_true, Bool.and_eq_true, Bool.not_eq_true', Bool.not_eq_false', Bool.or_eq_false_iff, Bool.and_eq_false_imp, decide_eq_true_eq, decide_eq_false_iff_not, Bool.not_true, Bool.not_false, beq_iff_eq, Bool.not_eq_true, Bool.not_eq_false, Bool.true_eq_false, Bool.false_eq_true, not_or, Decidable.not_not, ne_eq] at hg0 ⊢; simp_all; done) | (simp_all; done) | (simp_all; omega)) ?_
    refine scg (fun hg => fits_ok t m q hBM hq u5) rfl rfl rfl rfl (by kernel_rfl) rfl (by kernel_rfl) (fun hg => (.cons (by first | exact argw_same | exact argw_nil | exact argw_tt | exact argw_ff | exact argw_eq rfl) (.cons (by first | exact argw_same | exact argw_nil | exact argw_tt | exact argw_ff | exact argw_eq rfl) (.cons (by first | exact argw_same | exact argw_nil | exact argw_tt | exact argw_ff | exact argw_eq rfl) .nil)))) rfl (by intro hg; have hg0 := hg; (try simp only [Bool.or_eq_true, Bool.and_eq_true, Bool.not_eq_true', Bool.not_eq_false', Bool.or_eq_false_iff, Bool.and_eq_false_imp, decide_eq_true_eq, decide_eq_false_iff_not, Bool.not_true, Bool.not_false, beq_iff_eq, Bool.not_eq_true, Bool.not_eq_false, Bool.true_eq_false, Bool.false_eq_true, not_or, Decidable.not_not, ne_eq] at hg); (try simp only [Int.toNat_natCast, dflt_i, dflt_b, dflt_l, dflt_p, Int.toNat_zero, gt_iff_lt, ge_iff_le] at hg); (repeat' apply And.intro); all_goals first | exact hg0 | exact True.intro | rfl | omega | (simp only [inr]; omega) | (simp only [IntKind.bits]; omega) | (simp only [Bool.or_eq_true, Bool.and_eq_true, Bool.not_eq_true', Bool.not_eq_false', Bool.or_eq_false_iff, Bool.and_eq_false_imp, decide_eq_true_eq, decide_eq_false_iff_not, Bool.not_true, Bool.not_false, beq_iff_eq, Bool.not_eq_true, Bool.not_eq_false, Bool.true_eq_false, Bool.false_eq_true, not_or, Decidable.not_not, ne_eq]; omega) | (simp only [inr, Int.toNat_natCast, dflt_i, dflt_b, dflt_l, dflt_p, Int.toNat_zero, gt_iff_lt, ge_iff_le]; omega) | (simp only [Int.toNat_natCast, dflt_i, dflt_b, dflt_l, dflt_p, Int.toNat_zero, gt_iff_lt, ge_iff_le]; omega) | (simp only [Bool.or_eq_true, Bool.and_eq_true, Bool.not_eq_true', Bool.not_eq_false', Bool.or_eq_false_iff, Bool.and_eq_false_imp, decide_eq_true_eq, decide_eq_false_iff_not, Bool.not_true, Bool.not_false, beq_iff_eq, Bool.not_eq_true, Bool.not_eq_false, Bool.true_eq_false, Bool.false_eq_true, not_or, Decidable.not_not, ne_eq] at hg0 ⊢; simp_all; done) | (simp_all; done) | (simp_all; omega)) ?_
    iterate 2 refine st (m := false) tabok rfl rfl rfl (by (repeat' apply And.intro); all_goals first | exact True.intro | rfl | omega | (simp only [inr]; omega) | (simp only [IntKind.bits]; omega) | exact fun h => h | (intro hq; rw [hq]; rfl) | (simp only [Int.toNat_natCast, dflt_i, dflt_b, dflt_l, dflt_p, Int.toNat_zero, gt_iff_lt, ge_iff_le]; omega) | (simp only [ti3, ti4, ti22, ti41]; omega) | (simp [ti3, ti4, ti22, ti41]; omega) | (simp_all; done) | (simp [SV.cellsL, SV.cells]; done) | (simp [SV.cellsL, SV.cells]; omega)) ?_
    refine ops_nil ?_
    refine aw_seq ?_
    refine aw_seq ?_
    refine aw_reg _ (by kernel_rfl) rfl ?_
    iterate 2 refine st (m := false) tabok rfl rfl rfl (by (repeat' apply And.intro); all_goals first | exact True.intro | rfl | omega | (simp only [inr]; omega) | (simp only [IntKind.bits]; omega) | exact fun h => h | (intro hq; rw [hq]; rfl) | (simp only [Int.toNat_natCast, dflt_i, dflt_b, dflt_l, dflt_p, Int.toNat_zero, gt_iff_lt, ge_iff_le]; omega) | (simp only [ti3, ti4, ti22, ti41]; omega) | (simp [ti3, ti4, ti22, ti41]; omega) | (simp_all; done) | (simp [SV.cellsL, SV.cells]; done) | (simp [SV.cellsL, SV.cells]; omega)) ?_
    refine ops_nil ?_
    refine aw_if rfl (fun c6 => ?_) (fun c6 => ?_)
    · try simp only [Bool.or_eq_true, Bool.and_eq_true, Bool.not_eq_true', Bool.not_eq_false', Bool.or_eq_false_iff, Bool.and_eq_false_imp, decide_eq_true_eq, decide_eq_false_iff_not, Bool.not_true, Bool.not_false, beq_iff_eq, Bool.not_eq_true, Bool.not_eq_false, Bool.true_eq_false, Bool.false_eq_true, not_or, Decidable.not_not, ne_eq] at c6
      try simp only [Int.toNat_natCast, dflt_i, dflt_b, dflt_l, dflt_p, Int.toNat_zero, gt_iff_lt, ge_iff_le] at c6
      refine aw_seq ?_
      refine aw_reg _ (by kernel_rfl) rfl ?_
      iterate 4 refine st (m := false) tabok rfl rfl rfl (by (repeat' apply And.intro); all_goals first | exact True.intro | rfl | omega | (simp only [inr]; omega) | (simp only [IntKind.bits]; omega) | exact fun h => h | (intro hq; rw [hq]; rfl) | (simp only [Int.toNat_natCast, dflt_i, dflt_b, dflt_l, dflt_p, Int.toNat_zero, gt_iff_lt, ge_iff_le]; omega) | (simp only [ti3, ti4, ti22, ti41]; omega) | (simp [ti3, ti4, ti22, ti41]; omega) | (simp_all; done) | (simp [SV.cellsL, SV.cells]; done) | (simp [SV.cellsL, SV.cells]; omega)) ?_
      iterate 6 refine stg (m := false) tabok rfl rfl rfl rfl rfl (by intro hg; have hg0 := hg; (try simp only [Bool.or_eq_true, Bool.and_eq_true, Bool.not_eq_true', Bool.not_eq_false', Bool.or_eq_false_iff, Bool.and_eq_false_imp, decide_eq_true_eq, decide_eq_false_iff_not, Bool.not_true, Bool.not_false, beq_iff_eq, Bool.not_eq_true, Bool.not_eq_false, Bool.true_eq_false, Bool.false_eq_true, not_or, Decidable.not_not, ne_eq] at hg); (try simp only [Int.toNat_natCast, dflt_i, dflt_b, dflt_l, dflt_p, Int.toNat_zero, gt_iff_lt, ge_iff_le] at hg); (repeat' apply And.intro); all_goals first | exact hg0 | exact True.intro | rfl | omega | (simp only [inr]; omega) | (simp only [IntKind.bits]; omega) | (simp only [Bool.or_eq_true, Bool.and_eq_true, Bool.not_eq_true', Bool.not_eq_false', Bool.or_eq_false_iff, Bool.and_eq_false_imp, decide_eq_true_eq, decide_eq_false_iff_not, Bool.not_true, Bool.not_false, beq_iff_eq, Bool.not_eq_true, Bool.not_eq_false, Bool.true_eq_false, Bool.false_eq_true, not_or, Decidable.not_not, ne_eq]; omega) | (simp only [inr, Int.toNat_natCast, dflt_i, dflt_b, dflt_l, dflt_p, Int.toNat_zero, gt_iff_lt, ge_iff_le]; omega) | (simp only [Int.toNat_natCast, dflt_i, dflt_b, dflt_l, dflt_p, Int.toNat_zero, gt_iff_lt, ge_iff_le]; omega) | (simp only [Bool.or_eq_true, Bool.and_eq_true, Bool.not_eq_true', Bool.not_eq_false', Bool.or_eq_false_iff, Bool.and_eq_false_imp, decide_eq_true_eq, decide_eq_false_iff_not, Bool.not_true, Bool.not_false, beq_iff_eq, Bool.not_eq_true, Bool.not_eq_false, Bool.true_eq_false, Bool.false_eq_true, not_or, Decidable.not_not, ne_eq] at hg0 ⊢; simp_all; done) | (simp_all; done) | (simp_all; omega)) ?_
      iterate 2 refine st (m := false) tabok rfl rfl rfl (by (repeat' apply And.intro); all_goals first | exact True.intro | rfl | omega | (simp only [inr]; omega) | (simp only [IntKind.bits]; omega) | exact fun h => h | (intro hq; rw [hq]; rfl) | (simp only [Int.toNat_natCast, dflt_i, dflt_b, dflt_l, dflt_p, Int.toNat_zero, gt_iff_lt, ge_iff_le]; omega) | (simp only [ti3, ti4, ti22, ti41]; omega) | (simp [ti3, ti4, ti22, ti41]; omega) | (simp_all; done) | (simp [SV.cellsL, SV.cells]; done) | (simp [SV.cellsL, SV.cells]; omega)) ?_
      refine scg (fun hg => alive_ok) rfl rfl rfl rfl (by kernel_rfl) rfl (by kernel_rfl) (fun hg => .nil) rfl (by intro hg; have hg0 := hg; (try simp only [Bool.or_eq_true, Bool.and_eq_true, Bool.not_eq_true', Bool.not_eq_false', Bool.or_eq_false_iff, Bool.and_eq_false_imp, decide_eq_true_eq, decide_eq_false_iff_not, Bool.not_true, Bool.not_false, beq_iff_eq, Bool.not_eq_true, Bool.not_eq_false, Bool.true_eq_false, Bool.false_eq_true, not_or, Decidable.not_not, ne_eq] at hg); (try simp only [Int.toNat_natCast, dflt_i, dflt_b, dflt_l, dflt_p, Int.toNat_zero, gt_iff_lt, ge_iff_le] at hg); (repeat' apply And.intro); all_goals first | exact hg0 | exact True.intro | rfl | omega | (simp only [inr]; omega) | (simp only [IntKind.bits]; omega) | (simp only [Bool.or_eq_true, Bool.and_eq_true, Bool.not_eq_true', Bool.not_eq_false', Bool.or_eq_false_iff, Bool.and_eq_false_imp, decide_eq_true_eq, decide_eq_false_iff_not, Bool.not_true, Bool.not_false, beq_iff_eq, Bool.not_eq_true, Bool.not_eq_false, Bool.true_eq_false, Bool.false_eq_true, not_or, Decidable.not_not, ne_eq]; omega) | (simp only [inr, Int.toNat_natCast, dflt_i, dflt_b, dflt_l, dflt_p, Int.toNat_zero, gt_iff_lt, ge_iff_le]; omega) | (simp only [Int.toNat_natCast, dflt_i, dflt_b, dflt_l, dflt_p, Int.toNat_zero, gt_iff_lt, ge_iff_le]; omega) | (simp only [Bool.or_eq_true, Bool.and_eq_true, Bool.not_eq_true', Bool.not_eq_false', Bool.or_eq_false_iff, Bool.and_eq_false_imp, decide_eq_true_eq, decide_eq_false_iff_not, Bool.not_true, Bool.not_false, beq_iff_eq, Bool.not_eq_true, Bool.not_eq_false, Bool.true_eq_false, Bool.false_eq_true, not_or, Decidable.not_not, ne_eq] at hg0 ⊢; simp_all; done) | (simp_all; done) | (simp_all; omega)) ?_
      iterate 2 refine st (m := false) tabok rfl rfl rfl (by (repeat' apply And.intro); all_goals first | exact True.intro | rfl | omega | (simp only [inr]; omega) | (simp only [IntKind.bits]; omega) | exact fun h => h | (intro hq; rw [hq]; rfl) | (simp only [Int.toNat_natCast, dflt_i, dflt_b, dflt_l, dflt_p, Int.toNat_zero, gt_iff_lt, ge_iff_le]; omega) | (simp only [ti3, ti4, ti22, ti41]; omega) | (simp [ti3, ti4, ti22, ti41]; omega) | (simp_all; done) | (simp [SV.cellsL, SV.cells]; done) | (simp [SV.cellsL, SV.cells]; omega)) ?_
      refine ops_nil ?_
      refine aw_ret ?_
      -- leaf ret.1f.6t
      refine ret_c ?_
      refine fs_bool ?_
      have e1 := hA.nil (by omega)
      subst e1
      have e2 : fitsS t m q = false := by
        rw [Bool.eq_false_iff]
        intro h
        exact c6 (hA.some q h)
      simp [e2]
    · try simp only [Bool.or_eq_true, Bool.and_eq_true, Bool.not_eq_true', Bool.not_eq_false', Bool.or_eq_false_iff, Bool.and_eq_false_imp, decide_eq_true_eq, decide_eq_false_iff_not, Bool.not_true, Bool.not_false, beq_iff_eq, Bool.not_eq_true, Bool.not_eq_false, Bool.true_eq_false, Bool.false_eq_true, not_or, Decidable.not_not, ne_eq] at c6
      try simp only [Int.toNat_natCast, dflt_i, dflt_b, dflt_l, dflt_p, Int.toNat_zero, gt_iff_lt, ge_iff_le] at c6
      have hg := hA.good (by omega)
      have hp := big_of (l := p) (by have := plan_len6 hg.2.1; omega)
      refine aw_skip ?_
      refine aw_seq ?_
      refine aw_seq ?_
      refine aw_reg _ (by kernel_rfl) rfl ?_
      iterate 3 refine st (m := false) tabok rfl rfl rfl (by (repeat' apply And.intro); all_goals first | exact True.intro | rfl | omega | (simp only [inr]; omega) | (simp only [IntKind.bits]; omega) | exact fun h => h | (intro hq; rw [hq]; rfl) | (simp only [Int.toNat_natCast, dflt_i, dflt_b, dflt_l, dflt_p, Int.toNat_zero, gt_iff_lt, ge_iff_le]; omega) | (simp only [ti3, ti4, ti22, ti41]; omega) | (simp [ti3, ti4, ti22, ti41]; omega) | (simp_all; done) | (simp [SV.cellsL, SV.cells]; done) | (simp [SV.cellsL, SV.cells]; omega)) ?_
      refine sc (fits_ok t m p hBM hp u5) rfl rfl (by kernel_rfl) rfl (by kernel_rfl) (.cons (by first | exact argw_same | exact argw_nil | exact argw_tt | exact argw_ff | exact argw_eq rfl) (.cons (by first | exact argw_same | exact argw_nil | exact argw_tt | exact argw_ff | exact argw_eq rfl) (.cons (by first | exact argw_same | exact argw_nil | exact argw_tt | exact argw_ff | exact argw_eq rfl) .nil))) ?_
      refine st (m := false) tabok rfl rfl rfl (by (repeat' apply And.intro); all_goals first | exact True.intro | rfl | omega | (simp only [inr]; omega) | (simp only [IntKind.bits]; omega) | exact fun h => h | (intro hq; rw [hq]; rfl) | (simp only [Int.toNat_natCast, dflt_i, dflt_b, dflt_l, dflt_p, Int.toNat_zero, gt_iff_lt, ge_iff_le]; omega) | (simp only [ti3, ti4, ti22, ti41]; omega) | (simp [ti3, ti4, ti22, ti41]; omega) | (simp_all; done) | (simp [SV.cellsL, SV.cells]; done) | (simp [SV.cellsL, SV.cells]; omega)) ?_
      refine ops_nil ?_
      refine aw_if rfl (fun c8 => ?_) (fun c8 => ?_)
      · try simp only [Bool.or_eq_true, Bool.and_eq_true, Bool.not_eq_true', Bool.not_eq_false', Bool.or_eq_false_iff, Bool.and_eq_false_imp, decide_eq_true_eq, decide_eq_false_iff_not, Bool.not_true, Bool.not_false, beq_iff_eq, Bool.not_eq_true, Bool.not_eq_false, Bool.true_eq_false, Bool.false_eq_true, not_or, Decidable.not_not, ne_eq] at c8
        try simp only [Int.toNat_natCast, dflt_i, dflt_b, dflt_l, dflt_p, Int.toNat_zero, gt_iff_lt, ge_iff_le] at c8
        refine aw_seq ?_
        refine aw_reg _ (by kernel_rfl) rfl ?_
        refine st (m := false) tabok rfl rfl rfl (by (repeat' apply And.intro); all_goals first | exact True.intro | rfl | omega | (simp only [inr]; omega) | (simp only [IntKind.bits]; omega) | exact fun h => h | (intro hq; rw [hq]; rfl) | (simp only [Int.toNat_natCast, dflt_i, dflt_b, dflt_l, dflt_p, Int.toNat_zero, gt_iff_lt, ge_iff_le]; omega) | (simp only [ti3, ti4, ti22, ti41]; omega) | (simp [ti3, ti4, ti22, ti41]; omega) | (simp_all; done) | (simp [SV.cellsL, SV.cells]; done) | (simp [SV.cellsL, SV.cells]; omega)) ?_
        refine ops_nil ?_
        refine aw_ret ?_
        -- leaf ret.1f.6f.8t
        refine ret_c ?_
        exact absurd hg.1 (by show ¬ fitsS t m p = true; simp_all)
      · try simp only [Bool.or_eq_true, Bool.and_eq_true, Bool.not_eq_true', Bool.not_eq_false', Bool.or_eq_false_iff, Bool.and_eq_false_imp, decide_eq_true_eq, decide_eq_false_iff_not, Bool.not_true, Bool.not_false, beq_iff_eq, Bool.not_eq_true, Bool.not_eq_false, Bool.true_eq_false, Bool.false_eq_true, not_or, Decidable.not_not, ne_eq] at c8
        try simp only [Int.toNat_natCast, dflt_i, dflt_b, dflt_l, dflt_p, Int.toNat_zero, gt_iff_lt, ge_iff_le] at c8
        refine aw_skip ?_
        refine aw_seq ?_
        refine aw_reg _ (by kernel_rfl) rfl ?_
        iterate 2 refine st (m := false) tabok rfl rfl rfl (by (repeat' apply And.intro); all_goals first | exact True.intro | rfl | omega | (simp only [inr]; omega) | (simp only [IntKind.bits]; omega) | exact fun h => h | (intro hq; rw [hq]; rfl) | (simp only [Int.toNat_natCast, dflt_i, dflt_b, dflt_l, dflt_p, Int.toNat_zero, gt_iff_lt, ge_iff_le]; omega) | (simp only [ti3, ti4, ti22, ti41]; omega) | (simp [ti3, ti4, ti22, ti41]; omega) | (simp_all; done) | (simp [SV.cellsL, SV.cells]; done) | (simp [SV.cellsL, SV.cells]; omega)) ?_
        refine sc (cost_ok p m hBM hp) rfl rfl (by kernel_rfl) rfl (by kernel_rfl) (.cons (by first | exact argw_same | exact argw_nil | exact argw_tt | exact argw_ff | exact argw_eq rfl) (.cons (by first | exact argw_same | exact argw_nil | exact argw_tt | exact argw_ff | exact argw_eq rfl) .nil)) ?_
        iterate 5 refine st (m := false) tabok rfl rfl rfl (by (repeat' apply And.intro); all_goals first | exact True.intro | rfl | omega | (simp only [inr]; omega) | (simp only [IntKind.bits]; omega) | exact fun h => h | (intro hq; rw [hq]; rfl) | (simp only [Int.toNat_natCast, dflt_i, dflt_b, dflt_l, dflt_p, Int.toNat_zero, gt_iff_lt, ge_iff_le]; omega) | (simp only [ti3, ti4, ti22, ti41]; omega) | (simp [ti3, ti4, ti22, ti41]; omega) | (simp_all; done) | (simp [SV.cellsL, SV.cells]; done) | (simp [SV.cellsL, SV.cells]; omega)) ?_
        refine ops_nil ?_
        refine aw_seq ?_
        refine aw_reg _ (by kernel_rfl) rfl ?_
        iterate 2 refine st (m := false) tabok rfl rfl rfl (by (repeat' apply And.intro); all_goals first | exact True.intro | rfl | omega | (simp only [inr]; omega) | (simp only [IntKind.bits]; omega) | exact fun h => h | (intro hq; rw [hq]; rfl) | (simp only [Int.toNat_natCast, dflt_i, dflt_b, dflt_l, dflt_p, Int.toNat_zero, gt_iff_lt, ge_iff_le]; omega) | (simp only [ti3, ti4, ti22, ti41]; omega) | (simp [ti3, ti4, ti22, ti41]; omega) | (simp_all; done) | (simp [SV.cellsL, SV.cells]; done) | (simp [SV.cellsL, SV.cells]; omega)) ?_
        refine sc (cost_ok q m hBM hq) rfl rfl (by kernel_rfl) rfl (by kernel_rfl) (.cons (by first | exact argw_same | exact argw_nil | exact argw_tt | exact argw_ff | exact argw_eq rfl) (.cons (by first | exact argw_same | exact argw_nil | exact argw_tt | exact argw_ff | exact argw_eq rfl) .nil)) ?_
        iterate 5 refine st (m := false) tabok rfl rfl rfl (by (repeat' apply And.intro); all_goals first | exact True.intro | rfl | omega | (simp only [inr]; omega) | (simp only [IntKind.bits]; omega) | exact fun h => h | (intro hq; rw [hq]; rfl) | (simp only [Int.toNat_natCast, dflt_i, dflt_b, dflt_l, dflt_p, Int.toNat_zero, gt_iff_lt, ge_iff_le]; omega) | (simp only [ti3, ti4, ti22, ti41]; omega) | (simp [ti3, ti4, ti22, ti41]; omega) | (simp_all; done) | (simp [SV.cellsL, SV.cells]; done) | (simp [SV.cellsL, SV.cells]; omega)) ?_
        refine ops_nil ?_
        refine aw_seq ?_
        refine aw_reg _ (by kernel_rfl) rfl ?_
        iterate 3 refine st (m := false) tabok rfl rfl rfl (by (repeat' apply And.intro); all_goals first | exact True.intro | rfl | omega | (simp only [inr]; omega) | (simp only [IntKind.bits]; omega) | exact fun h => h | (intro hq; rw [hq]; rfl) | (simp only [Int.toNat_natCast, dflt_i, dflt_b, dflt_l, dflt_p, Int.toNat_zero, gt_iff_lt, ge_iff_le]; omega) | (simp only [ti3, ti4, ti22, ti41]; omega) | (simp [ti3, ti4, ti22, ti41]; omega) | (simp_all; done) | (simp [SV.cellsL, SV.cells]; done) | (simp [SV.cellsL, SV.cells]; omega)) ?_
        iterate 17 refine stg (m := false) tabok rfl rfl rfl rfl rfl (by intro hg; have hg0 := hg; (try simp only [Bool.or_eq_true, Bool.and_eq_true, Bool.not_eq_true', Bool.not_eq_false', Bool.or_eq_false_iff, Bool.and_eq_false_imp, decide_eq_true_eq, decide_eq_false_iff_not, Bool.not_true, Bool.not_false, beq_iff_eq, Bool.not_eq_true, Bool.not_eq_false, Bool.true_eq_false, Bool.false_eq_true, not_or, Decidable.not_not, ne_eq] at hg); (try simp only [Int.toNat_natCast, dflt_i, dflt_b, dflt_l, dflt_p, Int.toNat_zero, gt_iff_lt, ge_iff_le] at hg); (repeat' apply And.intro); all_goals first | exact hg0 | exact True.intro | rfl | omega | (simp only [inr]; omega) | (simp only [IntKind.bits]; omega) | (simp only [Bool.or_eq_true, Bool.and_eq_true, Bool.not_eq_true', Bool.not_eq_false', Bool.or_eq_false_iff, Bool.and_eq_false_imp, decide_eq_true_eq, decide_eq_false_iff_not, Bool.not_true, Bool.not_false, beq_iff_eq, Bool.not_eq_true, Bool.not_eq_false, Bool.true_eq_false, Bool.false_eq_true, not_or, Decidable.not_not, ne_eq]; omega) | (simp only [inr, Int.toNat_natCast, dflt_i, dflt_b, dflt_l, dflt_p, Int.toNat_zero, gt_iff_lt, ge_iff_le]; omega) | (simp only [Int.toNat_natCast, dflt_i, dflt_b, dflt_l, dflt_p, Int.toNat_zero, gt_iff_lt, ge_iff_le]; omega) | (simp only [Bool.or_eq_true, Bool.and_eq_true, Bool.not_eq_true', Bool.not_eq_false', Bool.or_eq_false_iff, Bool.and_eq_false_imp, decide_eq_true_eq, decide_eq_false_iff_not, Bool.not_true, Bool.not_false, beq_iff_eq, Bool.not_eq_true, Bool.not_eq_false, Bool.true_eq_false, Bool.false_eq_true, not_or, Decidable.not_not, ne_eq] at hg0 ⊢; simp_all; done) | (simp_all; done) | (simp_all; omega)) ?_
        refine scg (fun hg => before_ok q p hq) rfl rfl rfl rfl (by kernel_rfl) rfl (by kernel_rfl) (fun hg => (.cons (by first | exact argw_same | exact argw_nil | exact argw_tt | exact argw_ff | exact argw_eq rfl) (.cons (by first | exact argw_same | exact argw_nil | exact argw_tt | exact argw_ff | exact argw_eq rfl) .nil))) rfl (by intro hg; have hg0 := hg; (try simp only [Bool.or_eq_true, Bool.and_eq_true, Bool.not_eq_true', Bool.not_eq_false', Bool.or_eq_false_iff, Bool.and_eq_false_imp, decide_eq_true_eq, decide_eq_false_iff_not, Bool.not_true, Bool.not_false, beq_iff_eq, Bool.not_eq_true, Bool.not_eq_false, Bool.true_eq_false, Bool.false_eq_true, not_or, Decidable.not_not, ne_eq] at hg); (try simp only [Int.toNat_natCast, dflt_i, dflt_b, dflt_l, dflt_p, Int.toNat_zero, gt_iff_lt, ge_iff_le] at hg); (repeat' apply And.intro); all_goals first | exact hg0 | exact True.intro | rfl | omega | (simp only [inr]; omega) | (simp only [IntKind.bits]; omega) | (simp only [Bool.or_eq_true, Bool.and_eq_true, Bool.not_eq_true', Bool.not_eq_false', Bool.or_eq_false_iff, Bool.and_eq_false_imp, decide_eq_true_eq, decide_eq_false_iff_not, Bool.not_true, Bool.not_false, beq_iff_eq, Bool.not_eq_true, Bool.not_eq_false, Bool.true_eq_false, Bool.false_eq_true, not_or, Decidable.not_not, ne_eq]; omega) | (simp only [inr, Int.toNat_natCast, dflt_i, dflt_b, dflt_l, dflt_p, Int.toNat_zero, gt_iff_lt, ge_iff_le]; omega) | (simp only [Int.toNat_natCast, dflt_i, dflt_b, dflt_l, dflt_p, Int.toNat_zero, gt_iff_lt, ge_iff_le]; omega) | (simp only [Bool.or_eq_true, Bool.and_eq_true, Bool.not_eq_true', Bool.not_eq_false', Bool.or_eq_false_iff, Bool.and_eq_false_imp, decide_eq_true_eq, decide_eq_false_iff_not, Bool.not_true, Bool.not_false, beq_iff_eq, Bool.not_eq_true, Bool.not_eq_false, Bool.true_eq_false, Bool.false_eq_true, not_or, Decidable.not_not, ne_eq] at hg0 ⊢; simp_all; done) | (simp_all; done) | (simp_all; omega)) ?_
        iterate 4 refine stg (m := false) tabok rfl rfl rfl rfl rfl (by intro hg; have hg0 := hg; (try simp only [Bool.or_eq_true, Bool.and_eq_true, Bool.not_eq_true', Bool.not_eq_false', Bool.or_eq_false_iff, Bool.and_eq_false_imp, decide_eq_true_eq, decide_eq_false_iff_not, Bool.not_true, Bool.not_false, beq_iff_eq, Bool.not_eq_true, Bool.not_eq_false, Bool.true_eq_false, Bool.false_eq_true, not_or, Decidable.not_not, ne_eq] at hg); (try simp only [Int.toNat_natCast, dflt_i, dflt_b, dflt_l, dflt_p, Int.toNat_zero, gt_iff_lt, ge_iff_le] at hg); (repeat' apply And.intro); all_goals first | exact hg0 | exact True.intro | rfl | omega | (simp only [inr]; omega) | (simp only [IntKind.bits]; omega) | (simp only [Bool.or_eq_true, Bool.and_eq_true, Bool.not_eq_true', Bool.not_eq_false', Bool.or_eq_false_iff, Bool.and_eq_false_imp, decide_eq_true_eq, decide_eq_false_iff_not, Bool.not_true, Bool.not_false, beq_iff_eq, Bool.not_eq_true, Bool.not_eq_false, Bool.true_eq_false, Bool.false_eq_true, not_or, Decidable.not_not, ne_eq]; omega) | (simp only [inr, Int.toNat_natCast, dflt_i, dflt_b, dflt_l, dflt_p, Int.toNat_zero, gt_iff_lt, ge_iff_le]; omega) | (simp only [Int.toNat_natCast, dflt_i, dflt_b, dflt_l, dflt_p, Int.toNat_zero, gt_iff_lt, ge_iff_le]; omega) | (simp only [Bool.or_eq_true, Bool.and_eq_true, Bool.not_eq_true', Bool.not_eq_false', Bool.or_eq_false_iff, Bool.and_eq_false_imp, decide_eq_true_eq, decide_eq_false_iff_not, Bool.not_true, Bool.not_false, beq_iff_eq, Bool.not_eq_true, Bool.not_eq_false, Bool.true_eq_false, Bool.false_eq_true, not_or, Decidable.not_not, ne_eq] at hg0 ⊢; simp_all; done) | (simp_all; done) | (simp_all; omega)) ?_
        iterate 2 refine st (m := false) tabok rfl rfl rfl (by (repeat' apply And.intro); all_goals first | exact True.intro | rfl | omega | (simp only [inr]; omega) | (simp only [IntKind.bits]; omega) | exact fun h => h | (intro hq; rw [hq]; rfl) | (simp only [Int.toNat_natCast, dflt_i, dflt_b, dflt_l, dflt_p, Int.toNat_zero, gt_iff_lt, ge_iff_le]; omega) | (simp only [ti3, ti4, ti22, ti41]; omega) | (simp [ti3, ti4, ti22, ti41]; omega) | (simp_all; done) | (simp [SV.cellsL, SV.cells]; done) | (simp [SV.cellsL, SV.cells]; omega)) ?_
        refine scg (fun hg => alive_ok) rfl rfl rfl rfl (by kernel_rfl) rfl (by kernel_rfl) (fun hg => .nil) rfl (by intro hg; have hg0 := hg; (try simp only [Bool.or_eq_true, Bool.and_eq_true, Bool.not_eq_true', Bool.not_eq_false', Bool.or_eq_false_iff, Bool.and_eq_false_imp, decide_eq_true_eq, decide_eq_false_iff_not, Bool.not_true, Bool.not_false, beq_iff_eq, Bool.not_eq_true, Bool.not_eq_false, Bool.true_eq_false, Bool.false_eq_true, not_or, Decidable.not_not, ne_eq] at hg); (try simp only [Int.toNat_natCast, dflt_i, dflt_b, dflt_l, dflt_p, Int.toNat_zero, gt_iff_lt, ge_iff_le] at hg); (repeat' apply And.intro); all_goals first | exact hg0 | exact True.intro | rfl | omega | (simp only [inr]; omega) | (simp only [IntKind.bits]; omega) | (simp only [Bool.or_eq_true, Bool.and_eq_true, Bool.not_eq_true', Bool.not_eq_false', Bool.or_eq_false_iff, Bool.and_eq_false_imp, decide_eq_true_eq, decide_eq_false_iff_not, Bool.not_true, Bool.not_false, beq_iff_eq, Bool.not_eq_true, Bool.not_eq_false, Bool.true_eq_false, Bool.false_eq_true, not_or, Decidable.not_not, ne_eq]; omega) | (simp only [inr, Int.toNat_natCast, dflt_i, dflt_b, dflt_l, dflt_p, Int.toNat_zero, gt_iff_lt, ge_iff_le]; omega) | (simp only [Int.toNat_natCast, dflt_i, dflt_b, dflt_l, dflt_p, Int.toNat_zero, gt_iff_lt, ge_iff_le]; omega) | (simp only [Bool.or_eq_true, Bool.and_eq_true, Bool.not_eq_true', Bool.not_eq_false', Bool.or_eq_false_iff, Bool.and_eq_false_imp, decide_eq_true_eq, decide_eq_false_iff_not, Bool.not_true, Bool.not_false, beq_iff_eq, Bool.not_eq_true, Bool.not_eq_false, Bool.true_eq_false, Bool.false_eq_true, not_or, Decidable.not_not, ne_eq] at hg0 ⊢; simp_all; done) | (simp_all; done) | (simp_all; omega)) ?_
        iterate 2 refine st (m := false) tabok rfl rfl rfl (by (repeat' apply And.intro); all_goals first | exact True.intro | rfl | omega | (simp only [inr]; omega) | (simp only [IntKind.bits]; omega) | exact fun h => h | (intro hq; rw [hq]; rfl) | (simp only [Int.toNat_natCast, dflt_i, dflt_b, dflt_l, dflt_p, Int.toNat_zero, gt_iff_lt, ge_iff_le]; omega) | (simp only [ti3, ti4, ti22, ti41]; omega) | (simp [ti3, ti4, ti22, ti41]; omega) | (simp_all; done) | (simp [SV.cellsL, SV.cells]; done) | (simp [SV.cellsL, SV.cells]; omega)) ?_
        refine ops_nil ?_
        refine aw_ret ?_
        -- leaf ret.1f.6f.8f
        refine ret_c ?_
        refine fs_bool ?_
        cases hf : fitsS t m q with
        | false => simp [hg.2.1]
        | true =>
          obtain ⟨a1, a2⟩ := hg.2.2 q hf
          rcases a2 with a2 | ⟨a2, a3⟩
          · simp [hg.2.1, a1, a2, Int.le_of_lt a2]
          · simp [hg.2.1, a1, a2, a3]
theorem optimal_law (t : Task) (m : List Mix) (q : List Int) (_ : WfD TTask t) (_ : WfD (.l TMix) m) (_ : WfD (.l TI64) q) : CS Try.prog 3 [taskS t, .row TMix m, .row TI64 q] (.bool true) := optimal_ok t m q
end Go.Sim
end
