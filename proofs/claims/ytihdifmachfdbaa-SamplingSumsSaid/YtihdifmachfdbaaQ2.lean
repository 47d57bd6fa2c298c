/- A part of the proof: the walks of this law's functions, and plain laws. -/
import Derived.Test.YtihdifmachfdbaaQ1
section
namespace Go.Sim
open Go Go.Proofs
set_option maxRecDepth 10000
set_option autoImplicit false
set_option linter.unusedSimpArgs false
set_option linter.unusedVariables false
theorem add_ok (a b : Nat) (ha : Sm a) (hb : Sm b) : CS Try.prog 39 [.row TU32 (lim a), .row TU32 (lim b)] (.row TU32 (lim (a + b))) := by
  have ha' : (lim a).length ≤ 1000 := ha
  have hb' : (lim b).length ≤ 1000 := hb
  refine fn_c [4] Try.func39 Try.ntmps39 rfl rfl rfl rfl ?_
  refine aw_seq ?_
  refine aw_reg _ (by kernel_rfl) rfl ?_
  refine zst tabok rfl rfl rfl ?_
  refine ops_nil ?_
  refine aw_seq ?_
  refine aw_reg _ (by kernel_rfl) rfl ?_
  refine zst tabok rfl rfl rfl ?_
  refine sc (trim_ok a ha) rfl rfl (by kernel_rfl) rfl (by kernel_rfl) (.cons (by first | exact argw_same | exact argw_nil | exact argw_tt | exact argw_ff | exact argw_eq rfl) .nil) ?_
  refine zst tabok rfl rfl rfl ?_
  refine sc (trim_ok b hb) rfl rfl (by kernel_rfl) rfl (by kernel_rfl) (.cons (by first | exact argw_same | exact argw_nil | exact argw_tt | exact argw_ff | exact argw_eq rfl) .nil) ?_
  iterate 2 refine zst tabok rfl rfl rfl ?_
  refine ops_nil ?_
  refine aw_seq ?_
  refine aw_seq ?_
  refine aw_reg _ (by kernel_rfl) rfl ?_
  iterate 5 refine zst tabok rfl rfl rfl ?_
  refine ops_nil ?_
  refine aw_if rfl (fun c2 => ?_) (fun c2 => ?_)
  · try simp only [Bool.or_eq_true, Bool.and_eq_true, Bool.not_eq_true', Bool.not_eq_false', Bool.or_eq_false_iff, Bool.and_eq_false_imp, decide_eq_true_eq, decide_eq_false_iff_not, Bool.not_true, Bool.not_false, beq_iff_eq, Bool.not_eq_true, Bool.not_eq_false, Bool.true_eq_false, Bool.false_eq_true, not_or, Decidable.not_not, ne_eq] at c2
    try simp only [Int.toNat_natCast, dflt_i, dflt_b, dflt_l, dflt_p, Int.toNat_zero, gt_iff_lt, ge_iff_le] at c2
    refine aw_reg _ (by kernel_rfl) rfl ?_
    iterate 4 refine zst tabok rfl rfl rfl ?_
    refine ops_nil ?_
    refine aw_seq ?_
    refine aw_reg _ (by kernel_rfl) rfl ?_
    iterate 5 refine stq (m := false) tabok rfl rfl (by (repeat' apply And.intro) <;> first | exact True.intro | rfl | omega | (simp only [inr, IntKind.bits, Int.toNat_natCast, dflt_i, dflt_b, dflt_l, dflt_p, Int.toNat_zero, gt_iff_lt, ge_iff_le, tnat_add, tnat_sub1, ti3, ti4, ti34, ti44, ti53, ti80]; omega) | exact fun h => h | (intro hq; rw [hq]; rfl) | (simp [SV.cellsL, SV.cells] <;> omega) | (simp_all; done)) ?_
    refine ops_nil ?_
    refine aw_seq ?_
    refine aw_reg _ (by kernel_rfl) rfl ?_
    refine zst tabok rfl rfl rfl ?_
    refine ops_nil ?_
    refine aw_seq ?_
    refine aw_seq ?_
    refine aw_reg _ (by kernel_rfl) rfl ?_
    iterate 3 refine zst tabok rfl rfl rfl ?_
    refine ops_nil ?_
    refine aw_block ?_
    refine aw_loop (X := (Nat) × (Nat) × (Nat) × (Int) × (List Int)) (fun (x : (Nat) × (Nat) × (Nat) × (Int) × (List Int)) => match x with | (x, y, i, c, o) => outT (look [(0, .row TU32 (lim x)), (1, .row TU32 (lim y)), (5, .view 0 i 0 i), (6, .int .u64 c), (24, .int .i64 (lim x).length), (25, .int .i64 i)])) (fun (x : (Nat) × (Nat) × (Nat) × (Int) × (List Int)) => match x with | (x, y, i, c, o) => outS [.obj i 80 1 [.lst TU32 o]]) (fun (x : (Nat) × (Nat) × (Nat) × (Int) × (List Int)) => match x with | (x, y, i, c, o) => ((lim x).length ≤ 1000 ∧ (lim y).length ≤ (lim x).length) ∧ (x + y = a + b) ∧ (i ≤ (lim x).length ∧ o.length = i) ∧ (0 ≤ c ∧ c ≤ 1) ∧ (Lim o) ∧ (val o + pw i * (val ((lim x).drop i) + val ((lim y).drop i) + c) = ((a + b : Nat) : Int))) (fun (x : (Nat) × (Nat) × (Nat) × (Int) × (List Int)) => match x with | (x, y, i, c, o) => (lim x).length - i) ((b, a, 0, 0, [])) ?_ ?_ ?_
    -- leaf L0:entry.2t
    · exact (by refine goes_to (tm := _) (st := _) [true] rfl rfl ⟨?_, True.intro⟩ ⟨?_, ?_, ?_, ?_, ?_, ?_, True.intro⟩ <;> first | rfl | exact q_lst (by simp) | exact q_grow (by simp) | exact sk rfl rfl | exact sk (q_int (by omega)) rfl | exact sk (q_bool (by simp)) rfl | exact sk (q_view rfl rfl rfl (by omega)) rfl | exact sk (q_gview rfl (by simp)) rfl | exact sk (q_nil rfl) rfl | exact sk (q_row (by simp)) rfl | exact sk_g rfl rfl rfl rfl | exact sk_v rfl rfl rfl rfl rfl | exact sk_n rfl)
    · exact ⟨by omega, by omega, by simp, by omega, .nil, by simp [pw_zero, val_lim, val]; omega⟩
    · skip
      rintro ⟨x, y, i, c, o⟩ ⟨hx, hs, hi, hc, ho, hv⟩
      change awpB _ _ _ _ _ (outT (look [(0, .row TU32 (lim x)), (1, .row TU32 (lim y)), (5, .view 0 i 0 i), (6, .int .u64 c), (24, .int .i64 (lim x).length), (25, .int .i64 i)])) (outS [.obj i 80 1 [.lst TU32 o]])
      have gx := (lim_Lim x).get (i := i)
      have gy := (lim_Lim y).get (i := i)
      have hst := fun (t : Int) (ht : t = c + (lim x).getD i 0 + (lim y).getD i 0) => add_step (lim_Lim x) (lim_Lim y) ho hi.2 hc ht hv
      refine aw_seq ?_
      refine aw_reg _ (by kernel_rfl) rfl ?_
      refine zst tabok rfl rfl rfl ?_
      refine ops_nil ?_
      refine aw_seq ?_
      refine aw_if rfl (fun c7 => ?_) (fun c7 => ?_)
      · try simp only [Bool.or_eq_true, Bool.and_eq_true, Bool.not_eq_true', Bool.not_eq_false', Bool.or_eq_false_iff, Bool.and_eq_false_imp, decide_eq_true_eq, decide_eq_false_iff_not, Bool.not_true, Bool.not_false, beq_iff_eq, Bool.not_eq_true, Bool.not_eq_false, Bool.true_eq_false, Bool.false_eq_true, not_or, Decidable.not_not, ne_eq] at c7
        try simp only [Int.toNat_natCast, dflt_i, dflt_b, dflt_l, dflt_p, Int.toNat_zero, gt_iff_lt, ge_iff_le] at c7
        refine aw_skip ?_
        refine aw_seq ?_
        refine aw_block ?_
        refine aw_seq ?_
        refine aw_reg _ (by kernel_rfl) rfl ?_
        iterate 2 refine zst tabok rfl rfl rfl ?_
        refine ops_nil ?_
        refine aw_seq ?_
        refine aw_reg _ (by kernel_rfl) rfl ?_
        iterate 8 refine stq (m := false) tabok rfl rfl (by (repeat' apply And.intro) <;> first | exact True.intro | rfl | omega | (simp only [inr, IntKind.bits, Int.toNat_natCast, dflt_i, dflt_b, dflt_l, dflt_p, Int.toNat_zero, gt_iff_lt, ge_iff_le, tnat_add, tnat_sub1, ti3, ti4, ti34, ti44, ti53, ti80]; omega) | exact fun h => h | (intro hq; rw [hq]; rfl) | (simp [SV.cellsL, SV.cells] <;> omega) | (simp_all; done)) ?_
        refine ops_nil ?_
        refine aw_seq ?_
        refine aw_seq ?_
        refine aw_reg _ (by kernel_rfl) rfl ?_
        iterate 4 refine zst tabok rfl rfl rfl ?_
        refine ops_nil ?_
        refine aw_if rfl (fun c10 => ?_) (fun c10 => ?_)
        · try simp only [Bool.or_eq_true, Bool.and_eq_true, Bool.not_eq_true', Bool.not_eq_false', Bool.or_eq_false_iff, Bool.and_eq_false_imp, decide_eq_true_eq, decide_eq_false_iff_not, Bool.not_true, Bool.not_false, beq_iff_eq, Bool.not_eq_true, Bool.not_eq_false, Bool.true_eq_false, Bool.false_eq_true, not_or, Decidable.not_not, ne_eq] at c10
          try simp only [Int.toNat_natCast, dflt_i, dflt_b, dflt_l, dflt_p, Int.toNat_zero, gt_iff_lt, ge_iff_le] at c10
          refine aw_reg _ (by kernel_rfl) rfl ?_
          iterate 8 refine stq (m := false) tabok rfl rfl (by (repeat' apply And.intro) <;> first | exact True.intro | rfl | omega | (simp only [inr, IntKind.bits, Int.toNat_natCast, dflt_i, dflt_b, dflt_l, dflt_p, Int.toNat_zero, gt_iff_lt, ge_iff_le, tnat_add, tnat_sub1, ti3, ti4, ti34, ti44, ti53, ti80]; omega) | exact fun h => h | (intro hq; rw [hq]; rfl) | (simp [SV.cellsL, SV.cells] <;> omega) | (simp_all; done)) ?_
          refine ops_nil ?_
          refine aw_seq ?_
          refine aw_reg _ (by kernel_rfl) rfl ?_
          iterate 2 refine zst tabok rfl rfl rfl ?_
          refine st (m := true) tabok rfl rfl rfl (by (repeat' apply And.intro); all_goals first | exact True.intro | rfl | omega | (simp only [inr]; omega) | (simp only [IntKind.bits]; omega) | exact fun h => h | (intro hq; rw [hq]; rfl) | (simp only [Int.toNat_natCast, dflt_i, dflt_b, dflt_l, dflt_p, Int.toNat_zero, gt_iff_lt, ge_iff_le]; omega) | (simp only [ti3, ti4, ti34, ti44, ti53, ti80]; omega) | (simp [ti3, ti4, ti34, ti44, ti53, ti80]; omega) | (simp_all; done) | (simp [SV.cellsL, SV.cells]; done) | (simp [SV.cellsL, SV.cells]; omega) | (simp only [inr, Int.toNat_natCast, dflt_i, dflt_b, dflt_l, dflt_p, Int.toNat_zero, gt_iff_lt, ge_iff_le, tnat_add, tnat_sub1]; omega)) ?_
          refine stb tabok rfl rfl (by kernel_rfl) rfl ?_
          refine sap tabok rfl rfl (by kernel_rfl) rfl (by (repeat' apply And.intro); all_goals first | exact True.intro | rfl | omega | (simp only [inr]; omega) | (simp only [IntKind.bits]; omega) | exact fun h => h | (intro hq; rw [hq]; rfl) | (simp only [Int.toNat_natCast, dflt_i, dflt_b, dflt_l, dflt_p, Int.toNat_zero, gt_iff_lt, ge_iff_le]; omega) | (simp only [ti3, ti4, ti34, ti44, ti53, ti80]; omega) | (simp [ti3, ti4, ti34, ti44, ti53, ti80]; omega) | (simp_all; done) | (simp [SV.cellsL, SV.cells]; done) | (simp [SV.cellsL, SV.cells]; omega) | (simp only [inr, Int.toNat_natCast, dflt_i, dflt_b, dflt_l, dflt_p, Int.toNat_zero, gt_iff_lt, ge_iff_le, tnat_add, tnat_sub1]; omega)) ?_
          refine zst tabok rfl rfl rfl ?_
          refine ops_nil ?_
          refine aw_reg _ (by kernel_rfl) rfl ?_
          iterate 3 refine stq (m := false) tabok rfl rfl (by (repeat' apply And.intro) <;> first | exact True.intro | rfl | omega | (simp only [inr, IntKind.bits, Int.toNat_natCast, dflt_i, dflt_b, dflt_l, dflt_p, Int.toNat_zero, gt_iff_lt, ge_iff_le, tnat_add, tnat_sub1, ti3, ti4, ti34, ti44, ti53, ti80]; omega) | exact fun h => h | (intro hq; rw [hq]; rfl) | (simp [SV.cellsL, SV.cells] <;> omega) | (simp_all; done)) ?_
          refine ops_nil ?_
          refine aw_reg _ (by kernel_rfl) rfl ?_
          iterate 2 refine stq (m := false) tabok rfl rfl (by (repeat' apply And.intro) <;> first | exact True.intro | rfl | omega | (simp only [inr, IntKind.bits, Int.toNat_natCast, dflt_i, dflt_b, dflt_l, dflt_p, Int.toNat_zero, gt_iff_lt, ge_iff_le, tnat_add, tnat_sub1, ti3, ti4, ti34, ti44, ti53, ti80]; omega) | exact fun h => h | (intro hq; rw [hq]; rfl) | (simp [SV.cellsL, SV.cells] <;> omega) | (simp_all; done)) ?_
          refine ops_nil ?_
          -- leaf L0.7t.10t
          refine Exists.intro ((x, y, i + 1, (c + (lim x).getD i 0 + (lim y).getD i 0) / 2 ^ 32, o ++ [IntKind.wrap .u32 (c + (lim x).getD i 0 + (lim y).getD i 0)])) ⟨?_, ?_, ?_⟩
          · exact (by refine goes_to (tm := _) (st := _) [true] rfl rfl ⟨(by exact q_lst (by have e : o.take i = o := List.take_of_length_le (by omega); exact congrArg (· ++ [_]) e)), True.intro⟩ ⟨?_, ?_, ?_, ?_, ?_, ?_, True.intro⟩ <;> first | exact sk rfl rfl | exact sk (q_int (by omega)) rfl | exact sk (q_bool (by simp)) rfl | exact sk (q_view rfl rfl rfl (by omega)) rfl | exact sk (q_gview rfl (by simp)) rfl | exact sk (q_nil rfl) rfl | exact sk (q_row (by simp)) rfl | exact sk_g rfl rfl rfl rfl | exact sk_v rfl rfl rfl rfl rfl | exact sk_n rfl)
          · try dsimp only
            obtain ⟨t1, t2, t3⟩ := hst _ rfl
            exact ⟨hx, hs, by simp; omega, t1, t2, t3⟩
          · (try dsimp only); omega
        · try simp only [Bool.or_eq_true, Bool.and_eq_true, Bool.not_eq_true', Bool.not_eq_false', Bool.or_eq_false_iff, Bool.and_eq_false_imp, decide_eq_true_eq, decide_eq_false_iff_not, Bool.not_true, Bool.not_false, beq_iff_eq, Bool.not_eq_true, Bool.not_eq_false, Bool.true_eq_false, Bool.false_eq_true, not_or, Decidable.not_not, ne_eq] at c10
          try simp only [Int.toNat_natCast, dflt_i, dflt_b, dflt_l, dflt_p, Int.toNat_zero, gt_iff_lt, ge_iff_le] at c10
          refine aw_skip ?_
          refine aw_seq ?_
          refine aw_reg _ (by kernel_rfl) rfl ?_
          iterate 2 refine zst tabok rfl rfl rfl ?_
          refine st (m := true) tabok rfl rfl rfl (by (repeat' apply And.intro); all_goals first | exact True.intro | rfl | omega | (simp only [inr]; omega) | (simp only [IntKind.bits]; omega) | exact fun h => h | (intro hq; rw [hq]; rfl) | (simp only [Int.toNat_natCast, dflt_i, dflt_b, dflt_l, dflt_p, Int.toNat_zero, gt_iff_lt, ge_iff_le]; omega) | (simp only [ti3, ti4, ti34, ti44, ti53, ti80]; omega) | (simp [ti3, ti4, ti34, ti44, ti53, ti80]; omega) | (simp_all; done) | (simp [SV.cellsL, SV.cells]; done) | (simp [SV.cellsL, SV.cells]; omega) | (simp only [inr, Int.toNat_natCast, dflt_i, dflt_b, dflt_l, dflt_p, Int.toNat_zero, gt_iff_lt, ge_iff_le, tnat_add, tnat_sub1]; omega)) ?_
          refine stb tabok rfl rfl (by kernel_rfl) rfl ?_
          refine sap tabok rfl rfl (by kernel_rfl) rfl (by (repeat' apply And.intro); all_goals first | exact True.intro | rfl | omega | (simp only [inr]; omega) | (simp only [IntKind.bits]; omega) | exact fun h => h | (intro hq; rw [hq]; rfl) | (simp only [Int.toNat_natCast, dflt_i, dflt_b, dflt_l, dflt_p, Int.toNat_zero, gt_iff_lt, ge_iff_le]; omega) | (simp only [ti3, ti4, ti34, ti44, ti53, ti80]; omega) | (simp [ti3, ti4, ti34, ti44, ti53, ti80]; omega) | (simp_all; done) | (simp [SV.cellsL, SV.cells]; done) | (simp [SV.cellsL, SV.cells]; omega) | (simp only [inr, Int.toNat_natCast, dflt_i, dflt_b, dflt_l, dflt_p, Int.toNat_zero, gt_iff_lt, ge_iff_le, tnat_add, tnat_sub1]; omega)) ?_
          refine zst tabok rfl rfl rfl ?_
          refine ops_nil ?_
          refine aw_reg _ (by kernel_rfl) rfl ?_
          iterate 3 refine stq (m := false) tabok rfl rfl (by (repeat' apply And.intro) <;> first | exact True.intro | rfl | omega | (simp only [inr, IntKind.bits, Int.toNat_natCast, dflt_i, dflt_b, dflt_l, dflt_p, Int.toNat_zero, gt_iff_lt, ge_iff_le, tnat_add, tnat_sub1, ti3, ti4, ti34, ti44, ti53, ti80]; omega) | exact fun h => h | (intro hq; rw [hq]; rfl) | (simp [SV.cellsL, SV.cells] <;> omega) | (simp_all; done)) ?_
          refine ops_nil ?_
          refine aw_reg _ (by kernel_rfl) rfl ?_
          iterate 2 refine stq (m := false) tabok rfl rfl (by (repeat' apply And.intro) <;> first | exact True.intro | rfl | omega | (simp only [inr, IntKind.bits, Int.toNat_natCast, dflt_i, dflt_b, dflt_l, dflt_p, Int.toNat_zero, gt_iff_lt, ge_iff_le, tnat_add, tnat_sub1, ti3, ti4, ti34, ti44, ti53, ti80]; omega) | exact fun h => h | (intro hq; rw [hq]; rfl) | (simp [SV.cellsL, SV.cells] <;> omega) | (simp_all; done)) ?_
          refine ops_nil ?_
          -- leaf L0.7t.10f
          refine Exists.intro ((x, y, i + 1, (c + (lim x).getD i 0) / 2 ^ 32, o ++ [IntKind.wrap .u32 (c + (lim x).getD i 0)])) ⟨?_, ?_, ?_⟩
          · exact (by refine goes_to (tm := _) (st := _) [true] rfl rfl ⟨(by exact q_lst (by have e : o.take i = o := List.take_of_length_le (by omega); exact congrArg (· ++ [_]) e)), True.intro⟩ ⟨?_, ?_, ?_, ?_, ?_, ?_, True.intro⟩ <;> first | exact sk rfl rfl | exact sk (q_int (by omega)) rfl | exact sk (q_bool (by simp)) rfl | exact sk (q_view rfl rfl rfl (by omega)) rfl | exact sk (q_gview rfl (by simp)) rfl | exact sk (q_nil rfl) rfl | exact sk (q_row (by simp)) rfl | exact sk_g rfl rfl rfl rfl | exact sk_v rfl rfl rfl rfl rfl | exact sk_n rfl)
          · try dsimp only
            obtain ⟨t1, t2, t3⟩ := hst (c + (lim x).getD i 0) (by rw [getD_past (l := lim y) (by omega)]; omega)
            exact ⟨hx, hs, by simp; omega, t1, t2, t3⟩
          · (try dsimp only); omega
      · try simp only [Bool.or_eq_true, Bool.and_eq_true, Bool.not_eq_true', Bool.not_eq_false', Bool.or_eq_false_iff, Bool.and_eq_false_imp, decide_eq_true_eq, decide_eq_false_iff_not, Bool.not_true, Bool.not_false, beq_iff_eq, Bool.not_eq_true, Bool.not_eq_false, Bool.true_eq_false, Bool.false_eq_true, not_or, Decidable.not_not, ne_eq] at c7
        try simp only [Int.toNat_natCast, dflt_i, dflt_b, dflt_l, dflt_p, Int.toNat_zero, gt_iff_lt, ge_iff_le] at c7
        refine aw_exit ?_
        refine aw_seq ?_
        refine aw_seq ?_
        refine aw_reg _ (by kernel_rfl) rfl ?_
        iterate 2 refine zst tabok rfl rfl rfl ?_
        refine ops_nil ?_
        refine aw_if rfl (fun c15 => ?_) (fun c15 => ?_)
        · try simp only [Bool.or_eq_true, Bool.and_eq_true, Bool.not_eq_true', Bool.not_eq_false', Bool.or_eq_false_iff, Bool.and_eq_false_imp, decide_eq_true_eq, decide_eq_false_iff_not, Bool.not_true, Bool.not_false, beq_iff_eq, Bool.not_eq_true, Bool.not_eq_false, Bool.true_eq_false, Bool.false_eq_true, not_or, Decidable.not_not, ne_eq] at c15
          try simp only [Int.toNat_natCast, dflt_i, dflt_b, dflt_l, dflt_p, Int.toNat_zero, gt_iff_lt, ge_iff_le] at c15
          refine aw_reg _ (by kernel_rfl) rfl ?_
          iterate 2 refine zst tabok rfl rfl rfl ?_
          refine st (m := true) tabok rfl rfl rfl (by (repeat' apply And.intro); all_goals first | exact True.intro | rfl | omega | (simp only [inr]; omega) | (simp only [IntKind.bits]; omega) | exact fun h => h | (intro hq; rw [hq]; rfl) | (simp only [Int.toNat_natCast, dflt_i, dflt_b, dflt_l, dflt_p, Int.toNat_zero, gt_iff_lt, ge_iff_le]; omega) | (simp only [ti3, ti4, ti34, ti44, ti53, ti80]; omega) | (simp [ti3, ti4, ti34, ti44, ti53, ti80]; omega) | (simp_all; done) | (simp [SV.cellsL, SV.cells]; done) | (simp [SV.cellsL, SV.cells]; omega) | (simp only [inr, Int.toNat_natCast, dflt_i, dflt_b, dflt_l, dflt_p, Int.toNat_zero, gt_iff_lt, ge_iff_le, tnat_add, tnat_sub1]; omega)) ?_
          refine stb tabok rfl rfl (by kernel_rfl) rfl ?_
          refine sap tabok rfl rfl (by kernel_rfl) rfl (by (repeat' apply And.intro); all_goals first | exact True.intro | rfl | omega | (simp only [inr]; omega) | (simp only [IntKind.bits]; omega) | exact fun h => h | (intro hq; rw [hq]; rfl) | (simp only [Int.toNat_natCast, dflt_i, dflt_b, dflt_l, dflt_p, Int.toNat_zero, gt_iff_lt, ge_iff_le]; omega) | (simp only [ti3, ti4, ti34, ti44, ti53, ti80]; omega) | (simp [ti3, ti4, ti34, ti44, ti53, ti80]; omega) | (simp_all; done) | (simp [SV.cellsL, SV.cells]; done) | (simp [SV.cellsL, SV.cells]; omega) | (simp only [inr, Int.toNat_natCast, dflt_i, dflt_b, dflt_l, dflt_p, Int.toNat_zero, gt_iff_lt, ge_iff_le, tnat_add, tnat_sub1]; omega)) ?_
          refine zst tabok rfl rfl rfl ?_
          refine ops_nil ?_
          refine aw_seq ?_
          refine aw_reg _ (by kernel_rfl) rfl ?_
          iterate 2 refine zst tabok rfl rfl rfl ?_
          refine ops_nil ?_
          refine aw_ret ?_
          -- leaf ret.7f.15t
          refine ret_c ?_
          have e := (add_end (X := lim x) rfl hs ho hi.2 (by omega) hx.2 hv).1 (by omega) hc.2
          exact fs_view rfl rfl (by simp; omega) (by have e0 : o.take i = o := List.take_of_length_le (by omega); have e3 : (o ++ [IntKind.wrap .u32 c]).take (i + 1) = o ++ [IntKind.wrap .u32 c] := List.take_of_length_le (by simp; omega); exact (congrArg (fun z => (z ++ [IntKind.wrap .u32 c]).take (i + 1)) e0).trans (e3.trans e))
        · try simp only [Bool.or_eq_true, Bool.and_eq_true, Bool.not_eq_true', Bool.not_eq_false', Bool.or_eq_false_iff, Bool.and_eq_false_imp, decide_eq_true_eq, decide_eq_false_iff_not, Bool.not_true, Bool.not_false, beq_iff_eq, Bool.not_eq_true, Bool.not_eq_false, Bool.true_eq_false, Bool.false_eq_true, not_or, Decidable.not_not, ne_eq] at c15
          try simp only [Int.toNat_natCast, dflt_i, dflt_b, dflt_l, dflt_p, Int.toNat_zero, gt_iff_lt, ge_iff_le] at c15
          refine aw_skip ?_
          refine aw_seq ?_
          refine aw_reg _ (by kernel_rfl) rfl ?_
          iterate 2 refine zst tabok rfl rfl rfl ?_
          refine ops_nil ?_
          refine aw_ret ?_
          -- leaf ret.7f.15f
          refine ret_c ?_
          have e := (add_end (X := lim x) rfl hs ho hi.2 (by omega) hx.2 hv).2 (by omega)
          exact fs_view rfl rfl (by omega) (by rw [List.take_of_length_le (by omega)]; exact e)
  · try simp only [Bool.or_eq_true, Bool.and_eq_true, Bool.not_eq_true', Bool.not_eq_false', Bool.or_eq_false_iff, Bool.and_eq_false_imp, decide_eq_true_eq, decide_eq_false_iff_not, Bool.not_true, Bool.not_false, beq_iff_eq, Bool.not_eq_true, Bool.not_eq_false, Bool.true_eq_false, Bool.false_eq_true, not_or, Decidable.not_not, ne_eq] at c2
    try simp only [Int.toNat_natCast, dflt_i, dflt_b, dflt_l, dflt_p, Int.toNat_zero, gt_iff_lt, ge_iff_le] at c2
    refine aw_skip ?_
    refine aw_seq ?_
    refine aw_reg _ (by kernel_rfl) rfl ?_
    iterate 5 refine stq (m := false) tabok rfl rfl (by (repeat' apply And.intro) <;> first | exact True.intro | rfl | omega | (simp only [inr, IntKind.bits, Int.toNat_natCast, dflt_i, dflt_b, dflt_l, dflt_p, Int.toNat_zero, gt_iff_lt, ge_iff_le, tnat_add, tnat_sub1, ti3, ti4, ti34, ti44, ti53, ti80]; omega) | exact fun h => h | (intro hq; rw [hq]; rfl) | (simp [SV.cellsL, SV.cells] <;> omega) | (simp_all; done)) ?_
    refine ops_nil ?_
    refine aw_seq ?_
    refine aw_reg _ (by kernel_rfl) rfl ?_
    refine zst tabok rfl rfl rfl ?_
    refine ops_nil ?_
    refine aw_seq ?_
    refine aw_seq ?_
    refine aw_reg _ (by kernel_rfl) rfl ?_
    iterate 3 refine zst tabok rfl rfl rfl ?_
    refine ops_nil ?_
    refine aw_block ?_
    refine aw_loop (X := (Nat) × (Nat) × (Nat) × (Int) × (List Int)) (fun (x : (Nat) × (Nat) × (Nat) × (Int) × (List Int)) => match x with | (x, y, i, c, o) => outT (look [(0, .row TU32 (lim x)), (1, .row TU32 (lim y)), (5, .view 0 i 0 i), (6, .int .u64 c), (24, .int .i64 (lim x).length), (25, .int .i64 i)])) (fun (x : (Nat) × (Nat) × (Nat) × (Int) × (List Int)) => match x with | (x, y, i, c, o) => outS [.obj i 80 1 [.lst TU32 o]]) (fun (x : (Nat) × (Nat) × (Nat) × (Int) × (List Int)) => match x with | (x, y, i, c, o) => ((lim x).length ≤ 1000 ∧ (lim y).length ≤ (lim x).length) ∧ (x + y = a + b) ∧ (i ≤ (lim x).length ∧ o.length = i) ∧ (0 ≤ c ∧ c ≤ 1) ∧ (Lim o) ∧ (val o + pw i * (val ((lim x).drop i) + val ((lim y).drop i) + c) = ((a + b : Nat) : Int))) (fun (x : (Nat) × (Nat) × (Nat) × (Int) × (List Int)) => match x with | (x, y, i, c, o) => (lim x).length - i) ((a, b, 0, 0, [])) ?_ ?_ ?_
    -- leaf L0:entry.2f
    · exact (by refine goes_to (tm := _) (st := _) [true] rfl rfl ⟨?_, True.intro⟩ ⟨?_, ?_, ?_, ?_, ?_, ?_, True.intro⟩ <;> first | rfl | exact q_lst (by simp) | exact q_grow (by simp) | exact sk rfl rfl | exact sk (q_int (by omega)) rfl | exact sk (q_bool (by simp)) rfl | exact sk (q_view rfl rfl rfl (by omega)) rfl | exact sk (q_gview rfl (by simp)) rfl | exact sk (q_nil rfl) rfl | exact sk (q_row (by simp)) rfl | exact sk_g rfl rfl rfl rfl | exact sk_v rfl rfl rfl rfl rfl | exact sk_n rfl)
    · exact ⟨by omega, by omega, by simp, by omega, .nil, by simp [pw_zero, val_lim, val]⟩
    · skip
      rintro ⟨x, y, i, c, o⟩ ⟨hx, hs, hi, hc, ho, hv⟩
      change awpB _ _ _ _ _ (outT (look [(0, .row TU32 (lim x)), (1, .row TU32 (lim y)), (5, .view 0 i 0 i), (6, .int .u64 c), (24, .int .i64 (lim x).length), (25, .int .i64 i)])) (outS [.obj i 80 1 [.lst TU32 o]])
      have gx := (lim_Lim x).get (i := i)
      have gy := (lim_Lim y).get (i := i)
      have hst := fun (t : Int) (ht : t = c + (lim x).getD i 0 + (lim y).getD i 0) => add_step (lim_Lim x) (lim_Lim y) ho hi.2 hc ht hv
      refine aw_seq ?_
      refine aw_reg _ (by kernel_rfl) rfl ?_
      refine zst tabok rfl rfl rfl ?_
      refine ops_nil ?_
      refine aw_seq ?_
      refine aw_if rfl (fun c7 => ?_) (fun c7 => ?_)
      · try simp only [Bool.or_eq_true, Bool.and_eq_true, Bool.not_eq_true', Bool.not_eq_false', Bool.or_eq_false_iff, Bool.and_eq_false_imp, decide_eq_true_eq, decide_eq_false_iff_not, Bool.not_true, Bool.not_false, beq_iff_eq, Bool.not_eq_true, Bool.not_eq_false, Bool.true_eq_false, Bool.false_eq_true, not_or, Decidable.not_not, ne_eq] at c7
        try simp only [Int.toNat_natCast, dflt_i, dflt_b, dflt_l, dflt_p, Int.toNat_zero, gt_iff_lt, ge_iff_le] at c7
        refine aw_skip ?_
        refine aw_seq ?_
        refine aw_block ?_
        refine aw_seq ?_
        refine aw_reg _ (by kernel_rfl) rfl ?_
        iterate 2 refine zst tabok rfl rfl rfl ?_
        refine ops_nil ?_
        refine aw_seq ?_
        refine aw_reg _ (by kernel_rfl) rfl ?_
        iterate 8 refine stq (m := false) tabok rfl rfl (by (repeat' apply And.intro) <;> first | exact True.intro | rfl | omega | (simp only [inr, IntKind.bits, Int.toNat_natCast, dflt_i, dflt_b, dflt_l, dflt_p, Int.toNat_zero, gt_iff_lt, ge_iff_le, tnat_add, tnat_sub1, ti3, ti4, ti34, ti44, ti53, ti80]; omega) | exact fun h => h | (intro hq; rw [hq]; rfl) | (simp [SV.cellsL, SV.cells] <;> omega) | (simp_all; done)) ?_
        refine ops_nil ?_
        refine aw_seq ?_
        refine aw_seq ?_
        refine aw_reg _ (by kernel_rfl) rfl ?_
        iterate 4 refine zst tabok rfl rfl rfl ?_
        refine ops_nil ?_
        refine aw_if rfl (fun c10 => ?_) (fun c10 => ?_)
        · try simp only [Bool.or_eq_true, Bool.and_eq_true, Bool.not_eq_true', Bool.not_eq_false', Bool.or_eq_false_iff, Bool.and_eq_false_imp, decide_eq_true_eq, decide_eq_false_iff_not, Bool.not_true, Bool.not_false, beq_iff_eq, Bool.not_eq_true, Bool.not_eq_false, Bool.true_eq_false, Bool.false_eq_true, not_or, Decidable.not_not, ne_eq] at c10
          try simp only [Int.toNat_natCast, dflt_i, dflt_b, dflt_l, dflt_p, Int.toNat_zero, gt_iff_lt, ge_iff_le] at c10
          refine aw_reg _ (by kernel_rfl) rfl ?_
          iterate 8 refine stq (m := false) tabok rfl rfl (by (repeat' apply And.intro) <;> first | exact True.intro | rfl | omega | (simp only [inr, IntKind.bits, Int.toNat_natCast, dflt_i, dflt_b, dflt_l, dflt_p, Int.toNat_zero, gt_iff_lt, ge_iff_le, tnat_add, tnat_sub1, ti3, ti4, ti34, ti44, ti53, ti80]; omega) | exact fun h => h | (intro hq; rw [hq]; rfl) | (simp [SV.cellsL, SV.cells] <;> omega) | (simp_all; done)) ?_
          refine ops_nil ?_
          refine aw_seq ?_
          refine aw_reg _ (by kernel_rfl) rfl ?_
          iterate 2 refine zst tabok rfl rfl rfl ?_
          refine st (m := true) tabok rfl rfl rfl (by (repeat' apply And.intro); all_goals first | exact True.intro | rfl | omega | (simp only [inr]; omega) | (simp only [IntKind.bits]; omega) | exact fun h => h | (intro hq; rw [hq]; rfl) | (simp only [Int.toNat_natCast, dflt_i, dflt_b, dflt_l, dflt_p, Int.toNat_zero, gt_iff_lt, ge_iff_le]; omega) | (simp only [ti3, ti4, ti34, ti44, ti53, ti80]; omega) | (simp [ti3, ti4, ti34, ti44, ti53, ti80]; omega) | (simp_all; done) | (simp [SV.cellsL, SV.cells]; done) | (simp [SV.cellsL, SV.cells]; omega) | (simp only [inr, Int.toNat_natCast, dflt_i, dflt_b, dflt_l, dflt_p, Int.toNat_zero, gt_iff_lt, ge_iff_le, tnat_add, tnat_sub1]; omega)) ?_
          refine stb tabok rfl rfl (by kernel_rfl) rfl ?_
          refine sap tabok rfl rfl (by kernel_rfl) rfl (by (repeat' apply And.intro); all_goals first | exact True.intro | rfl | omega | (simp only [inr]; omega) | (simp only [IntKind.bits]; omega) | exact fun h => h | (intro hq; rw [hq]; rfl) | (simp only [Int.toNat_natCast, dflt_i, dflt_b, dflt_l, dflt_p, Int.toNat_zero, gt_iff_lt, ge_iff_le]; omega) | (simp only [ti3, ti4, ti34, ti44, ti53, ti80]; omega) | (simp [ti3, ti4, ti34, ti44, ti53, ti80]; omega) | (simp_all; done) | (simp [SV.cellsL, SV.cells]; done) | (simp [SV.cellsL, SV.cells]; omega) | (simp only [inr, Int.toNat_natCast, dflt_i, dflt_b, dflt_l, dflt_p, Int.toNat_zero, gt_iff_lt, ge_iff_le, tnat_add, tnat_sub1]; omega)) ?_
          refine zst tabok rfl rfl rfl ?_
          refine ops_nil ?_
          refine aw_reg _ (by kernel_rfl) rfl ?_
          iterate 3 refine stq (m := false) tabok rfl rfl (by (repeat' apply And.intro) <;> first | exact True.intro | rfl | omega | (simp only [inr, IntKind.bits, Int.toNat_natCast, dflt_i, dflt_b, dflt_l, dflt_p, Int.toNat_zero, gt_iff_lt, ge_iff_le, tnat_add, tnat_sub1, ti3, ti4, ti34, ti44, ti53, ti80]; omega) | exact fun h => h | (intro hq; rw [hq]; rfl) | (simp [SV.cellsL, SV.cells] <;> omega) | (simp_all; done)) ?_
          refine ops_nil ?_
          refine aw_reg _ (by kernel_rfl) rfl ?_
          iterate 2 refine stq (m := false) tabok rfl rfl (by (repeat' apply And.intro) <;> first | exact True.intro | rfl | omega | (simp only [inr, IntKind.bits, Int.toNat_natCast, dflt_i, dflt_b, dflt_l, dflt_p, Int.toNat_zero, gt_iff_lt, ge_iff_le, tnat_add, tnat_sub1, ti3, ti4, ti34, ti44, ti53, ti80]; omega) | exact fun h => h | (intro hq; rw [hq]; rfl) | (simp [SV.cellsL, SV.cells] <;> omega) | (simp_all; done)) ?_
          refine ops_nil ?_
          -- leaf L0.7t.10t
          refine Exists.intro ((x, y, i + 1, (c + (lim x).getD i 0 + (lim y).getD i 0) / 2 ^ 32, o ++ [IntKind.wrap .u32 (c + (lim x).getD i 0 + (lim y).getD i 0)])) ⟨?_, ?_, ?_⟩
          · exact (by refine goes_to (tm := _) (st := _) [true] rfl rfl ⟨(by exact q_lst (by have e : o.take i = o := List.take_of_length_le (by omega); exact congrArg (· ++ [_]) e)), True.intro⟩ ⟨?_, ?_, ?_, ?_, ?_, ?_, True.intro⟩ <;> first | exact sk rfl rfl | exact sk (q_int (by omega)) rfl | exact sk (q_bool (by simp)) rfl | exact sk (q_view rfl rfl rfl (by omega)) rfl | exact sk (q_gview rfl (by simp)) rfl | exact sk (q_nil rfl) rfl | exact sk (q_row (by simp)) rfl | exact sk_g rfl rfl rfl rfl | exact sk_v rfl rfl rfl rfl rfl | exact sk_n rfl)
          · try dsimp only
            obtain ⟨t1, t2, t3⟩ := hst _ rfl
            exact ⟨hx, hs, by simp; omega, t1, t2, t3⟩
          · (try dsimp only); omega
        · try simp only [Bool.or_eq_true, Bool.and_eq_true, Bool.not_eq_true', Bool.not_eq_false', Bool.or_eq_false_iff, Bool.and_eq_false_imp, decide_eq_true_eq, decide_eq_false_iff_not, Bool.not_true, Bool.not_false, beq_iff_eq, Bool.not_eq_true, Bool.not_eq_false, Bool.true_eq_false, Bool.false_eq_true, not_or, Decidable.not_not, ne_eq] at c10
          try simp only [Int.toNat_natCast, dflt_i, dflt_b, dflt_l, dflt_p, Int.toNat_zero, gt_iff_lt, ge_iff_le] at c10
          refine aw_skip ?_
          refine aw_seq ?_
          refine aw_reg _ (by kernel_rfl) rfl ?_
          iterate 2 refine zst tabok rfl rfl rfl ?_
          refine st (m := true) tabok rfl rfl rfl (by (repeat' apply And.intro); all_goals first | exact True.intro | rfl | omega | (simp only [inr]; omega) | (simp only [IntKind.bits]; omega) | exact fun h => h | (intro hq; rw [hq]; rfl) | (simp only [Int.toNat_natCast, dflt_i, dflt_b, dflt_l, dflt_p, Int.toNat_zero, gt_iff_lt, ge_iff_le]; omega) | (simp only [ti3, ti4, ti34, ti44, ti53, ti80]; omega) | (simp [ti3, ti4, ti34, ti44, ti53, ti80]; omega) | (simp_all; done) | (simp [SV.cellsL, SV.cells]; done) | (simp [SV.cellsL, SV.cells]; omega) | (simp only [inr, Int.toNat_natCast, dflt_i, dflt_b, dflt_l, dflt_p, Int.toNat_zero, gt_iff_lt, ge_iff_le, tnat_add, tnat_sub1]; omega)) ?_
          refine stb tabok rfl rfl (by kernel_rfl) rfl ?_
          refine sap tabok rfl rfl (by kernel_rfl) rfl (by (repeat' apply And.intro); all_goals first | exact True.intro | rfl | omega | (simp only [inr]; omega) | (simp only [IntKind.bits]; omega) | exact fun h => h | (intro hq; rw [hq]; rfl) | (simp only [Int.toNat_natCast, dflt_i, dflt_b, dflt_l, dflt_p, Int.toNat_zero, gt_iff_lt, ge_iff_le]; omega) | (simp only [ti3, ti4, ti34, ti44, ti53, ti80]; omega) | (simp [ti3, ti4, ti34, ti44, ti53, ti80]; omega) | (simp_all; done) | (simp [SV.cellsL, SV.cells]; done) | (simp [SV.cellsL, SV.cells]; omega) | (simp only [inr, Int.toNat_natCast, dflt_i, dflt_b, dflt_l, dflt_p, Int.toNat_zero, gt_iff_lt, ge_iff_le, tnat_add, tnat_sub1]; omega)) ?_
          refine zst tabok rfl rfl rfl ?_
          refine ops_nil ?_
          refine aw_reg _ (by kernel_rfl) rfl ?_
          iterate 3 refine stq (m := false) tabok rfl rfl (by (repeat' apply And.intro) <;> first | exact True.intro | rfl | omega | (simp only [inr, IntKind.bits, Int.toNat_natCast, dflt_i, dflt_b, dflt_l, dflt_p, Int.toNat_zero, gt_iff_lt, ge_iff_le, tnat_add, tnat_sub1, ti3, ti4, ti34, ti44, ti53, ti80]; omega) | exact fun h => h | (intro hq; rw [hq]; rfl) | (simp [SV.cellsL, SV.cells] <;> omega) | (simp_all; done)) ?_
          refine ops_nil ?_
          refine aw_reg _ (by kernel_rfl) rfl ?_
          iterate 2 refine stq (m := false) tabok rfl rfl (by (repeat' apply And.intro) <;> first | exact True.intro | rfl | omega | (simp only [inr, IntKind.bits, Int.toNat_natCast, dflt_i, dflt_b, dflt_l, dflt_p, Int.toNat_zero, gt_iff_lt, ge_iff_le, tnat_add, tnat_sub1, ti3, ti4, ti34, ti44, ti53, ti80]; omega) | exact fun h => h | (intro hq; rw [hq]; rfl) | (simp [SV.cellsL, SV.cells] <;> omega) | (simp_all; done)) ?_
          refine ops_nil ?_
          -- leaf L0.7t.10f
          refine Exists.intro ((x, y, i + 1, (c + (lim x).getD i 0) / 2 ^ 32, o ++ [IntKind.wrap .u32 (c + (lim x).getD i 0)])) ⟨?_, ?_, ?_⟩
          · exact (by refine goes_to (tm := _) (st := _) [true] rfl rfl ⟨(by exact q_lst (by have e : o.take i = o := List.take_of_length_le (by omega); exact congrArg (· ++ [_]) e)), True.intro⟩ ⟨?_, ?_, ?_, ?_, ?_, ?_, True.intro⟩ <;> first | exact sk rfl rfl | exact sk (q_int (by omega)) rfl | exact sk (q_bool (by simp)) rfl | exact sk (q_view rfl rfl rfl (by omega)) rfl | exact sk (q_gview rfl (by simp)) rfl | exact sk (q_nil rfl) rfl | exact sk (q_row (by simp)) rfl | exact sk_g rfl rfl rfl rfl | exact sk_v rfl rfl rfl rfl rfl | exact sk_n rfl)
          · try dsimp only
            obtain ⟨t1, t2, t3⟩ := hst (c + (lim x).getD i 0) (by rw [getD_past (l := lim y) (by omega)]; omega)
            exact ⟨hx, hs, by simp; omega, t1, t2, t3⟩
          · (try dsimp only); omega
      · try simp only [Bool.or_eq_true, Bool.and_eq_true, Bool.not_eq_true', Bool.not_eq_false', Bool.or_eq_false_iff, Bool.and_eq_false_imp, decide_eq_true_eq, decide_eq_false_iff_not, Bool.not_true, Bool.not_false, beq_iff_eq, Bool.not_eq_true, Bool.not_eq_false, Bool.true_eq_false, Bool.false_eq_true, not_or, Decidable.not_not, ne_eq] at c7
        try simp only [Int.toNat_natCast, dflt_i, dflt_b, dflt_l, dflt_p, Int.toNat_zero, gt_iff_lt, ge_iff_le] at c7
        refine aw_exit ?_
        refine aw_seq ?_
        refine aw_seq ?_
        refine aw_reg _ (by kernel_rfl) rfl ?_
        iterate 2 refine zst tabok rfl rfl rfl ?_
        refine ops_nil ?_
        refine aw_if rfl (fun c15 => ?_) (fun c15 => ?_)
        · try simp only [Bool.or_eq_true, Bool.and_eq_true, Bool.not_eq_true', Bool.not_eq_false', Bool.or_eq_false_iff, Bool.and_eq_false_imp, decide_eq_true_eq, decide_eq_false_iff_not, Bool.not_true, Bool.not_false, beq_iff_eq, Bool.not_eq_true, Bool.not_eq_false, Bool.true_eq_false, Bool.false_eq_true, not_or, Decidable.not_not, ne_eq] at c15
          try simp only [Int.toNat_natCast, dflt_i, dflt_b, dflt_l, dflt_p, Int.toNat_zero, gt_iff_lt, ge_iff_le] at c15
          refine aw_reg _ (by kernel_rfl) rfl ?_
          iterate 2 refine zst tabok rfl rfl rfl ?_
          refine st (m := true) tabok rfl rfl rfl (by (repeat' apply And.intro); all_goals first | exact True.intro | rfl | omega | (simp only [inr]; omega) | (simp only [IntKind.bits]; omega) | exact fun h => h | (intro hq; rw [hq]; rfl) | (simp only [Int.toNat_natCast, dflt_i, dflt_b, dflt_l, dflt_p, Int.toNat_zero, gt_iff_lt, ge_iff_le]; omega) | (simp only [ti3, ti4, ti34, ti44, ti53, ti80]; omega) | (simp [ti3, ti4, ti34, ti44, ti53, ti80]; omega) | (simp_all; done) | (simp [SV.cellsL, SV.cells]; done) | (simp [SV.cellsL, SV.cells]; omega) | (simp only [inr, Int.toNat_natCast, dflt_i, dflt_b, dflt_l, dflt_p, Int.toNat_zero, gt_iff_lt, ge_iff_le, tnat_add, tnat_sub1]; omega)) ?_
          refine stb tabok rfl rfl (by kernel_rfl) rfl ?_
          refine sap tabok rfl rfl (by kernel_rfl) rfl (by (repeat' apply And.intro); all_goals first | exact True.intro | rfl | omega | (simp only [inr]; omega) | (simp only [IntKind.bits]; omega) | exact fun h => h | (intro hq; rw [hq]; rfl) | (simp only [Int.toNat_natCast, dflt_i, dflt_b, dflt_l, dflt_p, Int.toNat_zero, gt_iff_lt, ge_iff_le]; omega) | (simp only [ti3, ti4, ti34, ti44, ti53, ti80]; omega) | (simp [ti3, ti4, ti34, ti44, ti53, ti80]; omega) | (simp_all; done) | (simp [SV.cellsL, SV.cells]; done) | (simp [SV.cellsL, SV.cells]; omega) | (simp only [inr, Int.toNat_natCast, dflt_i, dflt_b, dflt_l, dflt_p, Int.toNat_zero, gt_iff_lt, ge_iff_le, tnat_add, tnat_sub1]; omega)) ?_
          refine zst tabok rfl rfl rfl ?_
          refine ops_nil ?_
          refine aw_seq ?_
          refine aw_reg _ (by kernel_rfl) rfl ?_
          iterate 2 refine zst tabok rfl rfl rfl ?_
          refine ops_nil ?_
          refine aw_ret ?_
          -- leaf ret.7f.15t
          refine ret_c ?_
          have e := (add_end (X := lim x) rfl hs ho hi.2 (by omega) hx.2 hv).1 (by omega) hc.2
          exact fs_view rfl rfl (by simp; omega) (by have e0 : o.take i = o := List.take_of_length_le (by omega); have e3 : (o ++ [IntKind.wrap .u32 c]).take (i + 1) = o ++ [IntKind.wrap .u32 c] := List.take_of_length_le (by simp; omega); exact (congrArg (fun z => (z ++ [IntKind.wrap .u32 c]).take (i + 1)) e0).trans (e3.trans e))
        · try simp only [Bool.or_eq_true, Bool.and_eq_true, Bool.not_eq_true', Bool.not_eq_false', Bool.or_eq_false_iff, Bool.and_eq_false_imp, decide_eq_true_eq, decide_eq_false_iff_not, Bool.not_true, Bool.not_false, beq_iff_eq, Bool.not_eq_true, Bool.not_eq_false, Bool.true_eq_false, Bool.false_eq_true, not_or, Decidable.not_not, ne_eq] at c15
          try simp only [Int.toNat_natCast, dflt_i, dflt_b, dflt_l, dflt_p, Int.toNat_zero, gt_iff_lt, ge_iff_le] at c15
          refine aw_skip ?_
          refine aw_seq ?_
          refine aw_reg _ (by kernel_rfl) rfl ?_
          iterate 2 refine zst tabok rfl rfl rfl ?_
          refine ops_nil ?_
          refine aw_ret ?_
          -- leaf ret.7f.15f
          refine ret_c ?_
          have e := (add_end (X := lim x) rfl hs ho hi.2 (by omega) hx.2 hv).2 (by omega)
          exact fs_view rfl rfl (by omega) (by rw [List.take_of_length_le (by omega)]; exact e)
theorem mul_ok (a b : Nat) (ha : Sm a) (hb : Sm b) : CS Try.prog 55 [.row TU32 (lim a), .row TU32 (lim b)] (.row TU32 (lim (a * b))) := by
  have ha' : (lim a).length ≤ 1000 := ha
  have hb' : (lim b).length ≤ 1000 := hb
  refine fn_c [4] Try.func55 Try.ntmps55 rfl rfl rfl rfl ?_
  refine aw_seq ?_
  refine aw_reg _ (by kernel_rfl) rfl ?_
  refine zst tabok rfl rfl rfl ?_
  refine ops_nil ?_
  refine aw_seq ?_
  refine aw_reg _ (by kernel_rfl) rfl ?_
  refine zst tabok rfl rfl rfl ?_
  refine sc (trim_ok a ha) rfl rfl (by kernel_rfl) rfl (by kernel_rfl) (.cons (by first | exact argw_same | exact argw_nil | exact argw_tt | exact argw_ff | exact argw_eq rfl) .nil) ?_
  refine zst tabok rfl rfl rfl ?_
  refine sc (trim_ok b hb) rfl rfl (by kernel_rfl) rfl (by kernel_rfl) (.cons (by first | exact argw_same | exact argw_nil | exact argw_tt | exact argw_ff | exact argw_eq rfl) .nil) ?_
  iterate 2 refine zst tabok rfl rfl rfl ?_
  refine ops_nil ?_
  refine aw_seq ?_
  refine aw_reg _ (by kernel_rfl) rfl ?_
  iterate 7 refine stq (m := false) tabok rfl rfl (by (repeat' apply And.intro) <;> first | exact True.intro | rfl | omega | (simp only [inr, IntKind.bits, Int.toNat_natCast, dflt_i, dflt_b, dflt_l, dflt_p, Int.toNat_zero, gt_iff_lt, ge_iff_le, tnat_add, tnat_sub1, ti3, ti4, ti34, ti44, ti53, ti80]; omega) | exact fun h => h | (intro hq; rw [hq]; rfl) | (simp [SV.cellsL, SV.cells] <;> omega) | (simp_all; done)) ?_
  refine ops_nil ?_
  refine aw_seq ?_
  refine aw_seq ?_
  refine aw_reg _ (by kernel_rfl) rfl ?_
  iterate 3 refine zst tabok rfl rfl rfl ?_
  refine ops_nil ?_
  refine aw_block ?_
  refine aw_loop (X := (Nat) × (List Int)) (fun (x : (Nat) × (List Int)) => match x with | (i, o) => outT (look [(0, .row TU32 (lim a)), (1, .row TU32 (lim b)), (5, .view 0 0 0 ((lim a).length + (lim b).length)), (20, .int .i64 (lim a).length), (21, .int .i64 i)])) (fun (x : (Nat) × (List Int)) => match x with | (i, o) => outS [.obj 0 80 1 [.lst TU32 o]]) (fun (x : (Nat) × (List Int)) => match x with | (i, o) => (i ≤ (lim a).length) ∧ (o.length = (lim a).length + (lim b).length) ∧ (Lim o) ∧ (Zer o (i + (lim b).length)) ∧ (val o = val ((lim a).take i) * val (lim b))) (fun (x : (Nat) × (List Int)) => match x with | (i, o) => (lim a).length - i) ((0, List.replicate ((lim a).length + (lim b).length) 0)) ?_ ?_ ?_
  -- leaf L0:entry
  · exact (by refine goes_to (tm := _) (st := _) [true] rfl rfl ⟨(by exact q_lst (by congr 1)), True.intro⟩ ⟨?_, ?_, (by refine sk ?_ rfl; exact q_view rfl rfl rfl (by omega)), ?_, ?_, True.intro⟩ <;> first | exact sk rfl rfl | exact sk (q_int (by omega)) rfl | exact sk (q_bool (by simp)) rfl | exact sk (q_view rfl rfl rfl (by omega)) rfl | exact sk (q_gview rfl (by simp)) rfl | exact sk (q_nil rfl) rfl | exact sk (q_row (by simp)) rfl | exact sk_g rfl rfl rfl rfl | exact sk_v rfl rfl rfl rfl rfl | exact sk_n rfl)
  · exact ⟨by omega, by simp, .zeros _, fun j _ => by simp [List.getD_eq_getElem?_getD, List.getElem?_replicate]; split <;> rfl, by rw [val_zeros]; simp [val]⟩
  · skip
    rintro ⟨i, o⟩ ⟨hi, hl, ho, hz, hv⟩
    change awpB _ _ _ _ _ (outT (look [(0, .row TU32 (lim a)), (1, .row TU32 (lim b)), (5, .view 0 0 0 ((lim a).length + (lim b).length)), (20, .int .i64 (lim a).length), (21, .int .i64 i)])) (outS [.obj 0 80 1 [.lst TU32 o]])
    refine aw_seq ?_
    refine aw_reg _ (by kernel_rfl) rfl ?_
    refine zst tabok rfl rfl rfl ?_
    refine ops_nil ?_
    refine aw_seq ?_
    refine aw_if rfl (fun c4 => ?_) (fun c4 => ?_)
    · try simp only [Bool.or_eq_true, Bool.and_eq_true, Bool.not_eq_true', Bool.not_eq_false', Bool.or_eq_false_iff, Bool.and_eq_false_imp, decide_eq_true_eq, decide_eq_false_iff_not, Bool.not_true, Bool.not_false, beq_iff_eq, Bool.not_eq_true, Bool.not_eq_false, Bool.true_eq_false, Bool.false_eq_true, not_or, Decidable.not_not, ne_eq] at c4
      try simp only [Int.toNat_natCast, dflt_i, dflt_b, dflt_l, dflt_p, Int.toNat_zero, gt_iff_lt, ge_iff_le] at c4
      refine aw_skip ?_
      refine aw_seq ?_
      refine aw_block ?_
      refine aw_seq ?_
      refine aw_reg _ (by kernel_rfl) rfl ?_
      iterate 2 refine zst tabok rfl rfl rfl ?_
      refine ops_nil ?_
      refine aw_seq ?_
      refine aw_reg _ (by kernel_rfl) rfl ?_
      refine zst tabok rfl rfl rfl ?_
      refine ops_nil ?_
      refine aw_seq ?_
      refine aw_seq ?_
      refine aw_reg _ (by kernel_rfl) rfl ?_
      iterate 3 refine zst tabok rfl rfl rfl ?_
      refine ops_nil ?_
      refine aw_block ?_
      refine aw_loop (X := (Nat) × (Int) × (List Int)) (fun (x : (Nat) × (Int) × (List Int)) => match x with | (k, c, o') => outT (look [(0, .row TU32 (lim a)), (1, .row TU32 (lim b)), (5, .view 0 0 0 ((lim a).length + (lim b).length)), (6, .int .i64 i), (7, .int .u64 c), (20, .int .i64 (lim a).length), (21, .int .i64 i), (25, .int .i64 (lim b).length), (26, .int .i64 k)])) (fun (x : (Nat) × (Int) × (List Int)) => match x with | (k, c, o') => outS [.obj 0 80 1 [.lst TU32 o']]) (fun (x : (Nat) × (Int) × (List Int)) => match x with | (k, c, o') => (k ≤ (lim b).length) ∧ (o'.length = (lim a).length + (lim b).length) ∧ (0 ≤ c ∧ c < 4294967296) ∧ (Lim o') ∧ (Zer o' (i + (lim b).length)) ∧ (val o' + pw (i + k) * c = val o + pw i * ((lim a).getD i 0 * val ((lim b).take k)))) (fun (x : (Nat) × (Int) × (List Int)) => match x with | (k, c, o') => (lim b).length - k) ((0, 0, o)) ?_ ?_ ?_
      -- leaf L1:entry.4t
      · exact (by refine goes_to (tm := _) (st := _) [true] rfl rfl ⟨?_, True.intro⟩ ⟨?_, ?_, ?_, ?_, ?_, ?_, ?_, ?_, ?_, True.intro⟩ <;> first | rfl | exact q_lst (by simp) | exact q_grow (by simp) | exact sk rfl rfl | exact sk (q_int (by omega)) rfl | exact sk (q_bool (by simp)) rfl | exact sk (q_view rfl rfl rfl (by omega)) rfl | exact sk (q_gview rfl (by simp)) rfl | exact sk (q_nil rfl) rfl | exact sk (q_row (by simp)) rfl | exact sk_g rfl rfl rfl rfl | exact sk_v rfl rfl rfl rfl rfl | exact sk_n rfl)
      · exact ⟨by omega, hl, by omega, ho, hz, by simp [val]⟩
      · skip
        rintro ⟨k, c, o'⟩ ⟨hk, hl', hc, ho', hz', hv'⟩
        change awpB _ _ _ _ _ (outT (look [(0, .row TU32 (lim a)), (1, .row TU32 (lim b)), (5, .view 0 0 0 ((lim a).length + (lim b).length)), (6, .int .i64 i), (7, .int .u64 c), (20, .int .i64 (lim a).length), (21, .int .i64 i), (25, .int .i64 (lim b).length), (26, .int .i64 k)])) (outS [.obj 0 80 1 [.lst TU32 o']])
        have gx := (lim_Lim a).get (i := i)
        have gy := (lim_Lim b).get (i := k)
        have go := ho'.get (i := i + k)
        have gm := mul32 gx gy
        refine aw_seq ?_
        refine aw_reg _ (by kernel_rfl) rfl ?_
        refine zst tabok rfl rfl rfl ?_
        refine ops_nil ?_
        refine aw_seq ?_
        refine aw_if rfl (fun c8 => ?_) (fun c8 => ?_)
        · try simp only [Bool.or_eq_true, Bool.and_eq_true, Bool.not_eq_true', Bool.not_eq_false', Bool.or_eq_false_iff, Bool.and_eq_false_imp, decide_eq_true_eq, decide_eq_false_iff_not, Bool.not_true, Bool.not_false, beq_iff_eq, Bool.not_eq_true, Bool.not_eq_false, Bool.true_eq_false, Bool.false_eq_true, not_or, Decidable.not_not, ne_eq] at c8
          try simp only [Int.toNat_natCast, dflt_i, dflt_b, dflt_l, dflt_p, Int.toNat_zero, gt_iff_lt, ge_iff_le] at c8
          refine aw_skip ?_
          refine aw_seq ?_
          refine aw_block ?_
          refine aw_seq ?_
          refine aw_reg _ (by kernel_rfl) rfl ?_
          iterate 2 refine zst tabok rfl rfl rfl ?_
          refine ops_nil ?_
          refine aw_seq ?_
          refine aw_regD true _ (by kernel_rfl) (by kernel_rfl) (by kernel_rfl) rfl ?_
          iterate 22 refine sdq (m := false) tabok rfl rfl (by (repeat' apply And.intro) <;> first | exact True.intro | rfl | omega | (simp only [inr, IntKind.bits, Int.toNat_natCast, dflt_i, dflt_b, dflt_l, dflt_p, Int.toNat_zero, gt_iff_lt, ge_iff_le, tnat_add, tnat_sub1, ti3, ti4, ti34, ti44, ti53, ti80]; omega) | exact fun h => h | (intro hq; rw [hq]; rfl) | (simp [SV.cellsL, SV.cells] <;> omega) | (simp_all; done)) ?_
          refine opd_nil ?_
          refine aw_seq ?_
          refine aw_reg _ (by kernel_rfl) rfl ?_
          iterate 5 refine stq (m := false) tabok rfl rfl (by (repeat' apply And.intro) <;> first | exact True.intro | rfl | omega | (simp only [inr, IntKind.bits, Int.toNat_natCast, dflt_i, dflt_b, dflt_l, dflt_p, Int.toNat_zero, gt_iff_lt, ge_iff_le, tnat_add, tnat_sub1, ti3, ti4, ti34, ti44, ti53, ti80]; omega) | exact fun h => h | (intro hq; rw [hq]; rfl) | (simp [SV.cellsL, SV.cells] <;> omega) | (simp_all; done)) ?_
          refine st (m := true) tabok rfl rfl rfl (by (repeat' apply And.intro); all_goals first | exact True.intro | rfl | omega | (simp only [inr]; omega) | (simp only [IntKind.bits]; omega) | exact fun h => h | (intro hq; rw [hq]; rfl) | (simp only [Int.toNat_natCast, dflt_i, dflt_b, dflt_l, dflt_p, Int.toNat_zero, gt_iff_lt, ge_iff_le]; omega) | (simp only [ti3, ti4, ti34, ti44, ti53, ti80]; omega) | (simp [ti3, ti4, ti34, ti44, ti53, ti80]; omega) | (simp_all; done) | (simp [SV.cellsL, SV.cells]; done) | (simp [SV.cellsL, SV.cells]; omega) | (simp only [inr, Int.toNat_natCast, dflt_i, dflt_b, dflt_l, dflt_p, Int.toNat_zero, gt_iff_lt, ge_iff_le, tnat_add, tnat_sub1]; omega)) ?_
          iterate 2 refine stq (m := false) tabok rfl rfl (by (repeat' apply And.intro) <;> first | exact True.intro | rfl | omega | (simp only [inr, IntKind.bits, Int.toNat_natCast, dflt_i, dflt_b, dflt_l, dflt_p, Int.toNat_zero, gt_iff_lt, ge_iff_le, tnat_add, tnat_sub1, ti3, ti4, ti34, ti44, ti53, ti80]; omega) | exact fun h => h | (intro hq; rw [hq]; rfl) | (simp [SV.cellsL, SV.cells] <;> omega) | (simp_all; done)) ?_
          refine ops_nil ?_
          refine aw_reg _ (by kernel_rfl) rfl ?_
          iterate 3 refine stq (m := false) tabok rfl rfl (by (repeat' apply And.intro) <;> first | exact True.intro | rfl | omega | (simp only [inr, IntKind.bits, Int.toNat_natCast, dflt_i, dflt_b, dflt_l, dflt_p, Int.toNat_zero, gt_iff_lt, ge_iff_le, tnat_add, tnat_sub1, ti3, ti4, ti34, ti44, ti53, ti80]; omega) | exact fun h => h | (intro hq; rw [hq]; rfl) | (simp [SV.cellsL, SV.cells] <;> omega) | (simp_all; done)) ?_
          refine ops_nil ?_
          refine aw_reg _ (by kernel_rfl) rfl ?_
          iterate 2 refine stq (m := false) tabok rfl rfl (by (repeat' apply And.intro) <;> first | exact True.intro | rfl | omega | (simp only [inr, IntKind.bits, Int.toNat_natCast, dflt_i, dflt_b, dflt_l, dflt_p, Int.toNat_zero, gt_iff_lt, ge_iff_le, tnat_add, tnat_sub1, ti3, ti4, ti34, ti44, ti53, ti80]; omega) | exact fun h => h | (intro hq; rw [hq]; rfl) | (simp [SV.cellsL, SV.cells] <;> omega) | (simp_all; done)) ?_
          refine ops_nil ?_
          -- leaf L1.8t
          refine Exists.intro ((k + 1, (c + ((lim a).getD i 0 * (lim b).getD k 0 + o'.getD (i + k) 0)) / 2 ^ 32, o'.set (i + k) (IntKind.wrap .u32 (c + ((lim a).getD i 0 * (lim b).getD k 0 + o'.getD (i + k) 0))))) ⟨?_, ?_, ?_⟩
          · exact (by refine goes_to (tm := _) (st := _) [true] rfl rfl ⟨?_, True.intro⟩ ⟨?_, ?_, ?_, ?_, ?_, ?_, ?_, ?_, ?_, True.intro⟩ <;> first | rfl | exact q_lst (by simp) | exact q_grow (by simp) | exact sk rfl rfl | exact sk (q_int (by omega)) rfl | exact sk (q_bool (by simp)) rfl | exact sk (q_view rfl rfl rfl (by omega)) rfl | exact sk (q_gview rfl (by simp)) rfl | exact sk (q_nil rfl) rfl | exact sk (q_row (by simp)) rfl | exact sk_g rfl rfl rfl rfl | exact sk_v rfl rfl rfl rfl rfl | exact sk_n rfl)
          · try dsimp only
            obtain ⟨t1, t2, t3⟩ := mul_step gx (lim_Lim b) ho' (by omega) (by omega) hc rfl hv'
            exact ⟨by omega, by simp; omega, t1, t2, hz'.set (by omega) (by omega), t3⟩
          · (try dsimp only); omega
        · try simp only [Bool.or_eq_true, Bool.and_eq_true, Bool.not_eq_true', Bool.not_eq_false', Bool.or_eq_false_iff, Bool.and_eq_false_imp, decide_eq_true_eq, decide_eq_false_iff_not, Bool.not_true, Bool.not_false, beq_iff_eq, Bool.not_eq_true, Bool.not_eq_false, Bool.true_eq_false, Bool.false_eq_true, not_or, Decidable.not_not, ne_eq] at c8
          try simp only [Int.toNat_natCast, dflt_i, dflt_b, dflt_l, dflt_p, Int.toNat_zero, gt_iff_lt, ge_iff_le] at c8
          refine aw_exit ?_
          refine aw_reg _ (by kernel_rfl) rfl ?_
          iterate 6 refine stq (m := false) tabok rfl rfl (by (repeat' apply And.intro) <;> first | exact True.intro | rfl | omega | (simp only [inr, IntKind.bits, Int.toNat_natCast, dflt_i, dflt_b, dflt_l, dflt_p, Int.toNat_zero, gt_iff_lt, ge_iff_le, tnat_add, tnat_sub1, ti3, ti4, ti34, ti44, ti53, ti80]; omega) | exact fun h => h | (intro hq; rw [hq]; rfl) | (simp [SV.cellsL, SV.cells] <;> omega) | (simp_all; done)) ?_
          refine st (m := true) tabok rfl rfl rfl (by (repeat' apply And.intro); all_goals first | exact True.intro | rfl | omega | (simp only [inr]; omega) | (simp only [IntKind.bits]; omega) | exact fun h => h | (intro hq; rw [hq]; rfl) | (simp only [Int.toNat_natCast, dflt_i, dflt_b, dflt_l, dflt_p, Int.toNat_zero, gt_iff_lt, ge_iff_le]; omega) | (simp only [ti3, ti4, ti34, ti44, ti53, ti80]; omega) | (simp [ti3, ti4, ti34, ti44, ti53, ti80]; omega) | (simp_all; done) | (simp [SV.cellsL, SV.cells]; done) | (simp [SV.cellsL, SV.cells]; omega) | (simp only [inr, Int.toNat_natCast, dflt_i, dflt_b, dflt_l, dflt_p, Int.toNat_zero, gt_iff_lt, ge_iff_le, tnat_add, tnat_sub1]; omega)) ?_
          iterate 2 refine stq (m := false) tabok rfl rfl (by (repeat' apply And.intro) <;> first | exact True.intro | rfl | omega | (simp only [inr, IntKind.bits, Int.toNat_natCast, dflt_i, dflt_b, dflt_l, dflt_p, Int.toNat_zero, gt_iff_lt, ge_iff_le, tnat_add, tnat_sub1, ti3, ti4, ti34, ti44, ti53, ti80]; omega) | exact fun h => h | (intro hq; rw [hq]; rfl) | (simp [SV.cellsL, SV.cells] <;> omega) | (simp_all; done)) ?_
          refine ops_nil ?_
          refine aw_reg _ (by kernel_rfl) rfl ?_
          iterate 2 refine stq (m := false) tabok rfl rfl (by (repeat' apply And.intro) <;> first | exact True.intro | rfl | omega | (simp only [inr, IntKind.bits, Int.toNat_natCast, dflt_i, dflt_b, dflt_l, dflt_p, Int.toNat_zero, gt_iff_lt, ge_iff_le, tnat_add, tnat_sub1, ti3, ti4, ti34, ti44, ti53, ti80]; omega) | exact fun h => h | (intro hq; rw [hq]; rfl) | (simp [SV.cellsL, SV.cells] <;> omega) | (simp_all; done)) ?_
          refine ops_nil ?_
          -- leaf L0.8f
          refine Exists.intro ((i + 1, o'.set (i + (lim b).length) (IntKind.wrap .u32 c))) ⟨?_, ?_, ?_⟩
          · exact (by refine goes_to (tm := _) (st := _) [true] rfl rfl ⟨?_, True.intro⟩ ⟨?_, ?_, ?_, ?_, ?_, True.intro⟩ <;> first | rfl | exact q_lst (by simp) | exact q_grow (by simp) | exact sk rfl rfl | exact sk (q_int (by omega)) rfl | exact sk (q_bool (by simp)) rfl | exact sk (q_view rfl rfl rfl (by omega)) rfl | exact sk (q_gview rfl (by simp)) rfl | exact sk (q_nil rfl) rfl | exact sk (q_row (by simp)) rfl | exact sk_g rfl rfl rfl rfl | exact sk_v rfl rfl rfl rfl rfl | exact sk_n rfl)
          · try dsimp only
            have e : k = (lim b).length := by omega
            subst e
            obtain ⟨t1, t2, t3⟩ := mul_row ho' hz' (by omega) hc hv'
            refine ⟨by omega, by simp; omega, t1, t2, ?_⟩
            rw [t3, hv, val_take (by omega)]
            grind
          · (try dsimp only); omega
    · try simp only [Bool.or_eq_true, Bool.and_eq_true, Bool.not_eq_true', Bool.not_eq_false', Bool.or_eq_false_iff, Bool.and_eq_false_imp, decide_eq_true_eq, decide_eq_false_iff_not, Bool.not_true, Bool.not_false, beq_iff_eq, Bool.not_eq_true, Bool.not_eq_false, Bool.true_eq_false, Bool.false_eq_true, not_or, Decidable.not_not, ne_eq] at c4
      try simp only [Int.toNat_natCast, dflt_i, dflt_b, dflt_l, dflt_p, Int.toNat_zero, gt_iff_lt, ge_iff_le] at c4
      refine aw_exit ?_
      refine aw_seq ?_
      refine aw_reg _ (by kernel_rfl) rfl ?_
      refine zst tabok rfl rfl rfl ?_
      refine sca [0] (trim_sc 0 ((lim a).length + (lim b).length) o (by omega) (by omega)) rfl rfl (by kernel_rfl) rfl (by kernel_rfl) rfl rfl rfl rfl rfl rfl rfl rfl rfl rfl ⟨(by first | rfl | exact q_obj rfl), True.intro⟩ (.cons (by first | exact argw_same | exact argw_nil | exact argw_tt | exact argw_ff | exact argw_eq rfl) .nil) ?_
      refine zst tabok rfl rfl rfl ?_
      refine ops_nil ?_
      refine aw_ret ?_
      -- leaf ret.4f
      refine ret_c ?_
      have e : i = (lim a).length := by omega
      subst e
      have hv2 : val o = ((a * b : Nat) : Int) := by rw [hv, List.take_length, val_lim, val_lim]; simp
      obtain ⟨e1, e2⟩ := tn_of (l := o) (n := (lim a).length + (lim b).length) ho (by omega) (by rw [List.take_of_length_le (by omega)]; exact hv2)
      have e3 := tn_le o ((lim a).length + (lim b).length)
      exact fs_view rfl rfl (by omega) (by rw [e1]; exact e2)
theorem small_ok (a d : Nat) (ha : Sm a) (hd : 0 < d ∧ d < 4294967296) : CS Try.prog 82 [.row TU32 (lim a), .int .u32 (d : Int)] (.tup [.row TU32 (lim (a / d)), .int .u32 ((a % d : Nat) : Int)]) := by
  have ha' : (lim a).length ≤ 1000 := ha
  refine fn_c [4, 5] Try.func82 Try.ntmps82 rfl rfl rfl rfl ?_
  refine aw_seq ?_
  refine aw_reg _ (by kernel_rfl) rfl ?_
  iterate 2 refine zst tabok rfl rfl rfl ?_
  refine ops_nil ?_
  refine aw_seq ?_
  refine aw_reg _ (by kernel_rfl) rfl ?_
  iterate 4 refine stq (m := false) tabok rfl rfl (by (repeat' apply And.intro) <;> first | exact True.intro | rfl | omega | (simp only [inr, IntKind.bits, Int.toNat_natCast, dflt_i, dflt_b, dflt_l, dflt_p, Int.toNat_zero, gt_iff_lt, ge_iff_le, tnat_add, tnat_sub1, ti3, ti4, ti34, ti44, ti53, ti80]; omega) | exact fun h => h | (intro hq; rw [hq]; rfl) | (simp [SV.cellsL, SV.cells] <;> omega) | (simp_all; done)) ?_
  refine ops_nil ?_
  refine aw_seq ?_
  refine aw_reg _ (by kernel_rfl) rfl ?_
  refine zst tabok rfl rfl rfl ?_
  refine ops_nil ?_
  refine aw_seq ?_
  refine aw_seq ?_
  refine aw_reg _ (by kernel_rfl) rfl ?_
  iterate 4 refine stq (m := false) tabok rfl rfl (by (repeat' apply And.intro) <;> first | exact True.intro | rfl | omega | (simp only [inr, IntKind.bits, Int.toNat_natCast, dflt_i, dflt_b, dflt_l, dflt_p, Int.toNat_zero, gt_iff_lt, ge_iff_le, tnat_add, tnat_sub1, ti3, ti4, ti34, ti44, ti53, ti80]; omega) | exact fun h => h | (intro hq; rw [hq]; rfl) | (simp [SV.cellsL, SV.cells] <;> omega) | (simp_all; done)) ?_
  refine ops_nil ?_
  refine aw_block ?_
  refine aw_loop (X := (Nat) × (Int) × (List Int)) (fun (x : (Nat) × (Int) × (List Int)) => match x with | (k, r, q) => outT (look [(0, .row TU32 (lim a)), (1, .int .u32 (d : Int)), (6, .view 0 0 0 (lim a).length), (7, .int .u64 r), (8, .int .i64 ((k : Int) - 1))])) (fun (x : (Nat) × (Int) × (List Int)) => match x with | (k, r, q) => outS [.obj 0 80 1 [.lst TU32 q]]) (fun (x : (Nat) × (Int) × (List Int)) => match x with | (k, r, q) => (k ≤ (lim a).length) ∧ (q.length = (lim a).length) ∧ (0 ≤ r ∧ r < d) ∧ (Lim q) ∧ (val (q.drop k) * d + r = val ((lim a).drop k))) (fun (x : (Nat) × (Int) × (List Int)) => match x with | (k, r, q) => k) (((lim a).length, 0, List.replicate (lim a).length 0)) ?_ ?_ ?_
  -- leaf L0:entry
  · exact (by refine goes_to (tm := _) (st := _) [true] rfl rfl ⟨?_, True.intro⟩ ⟨?_, ?_, ?_, ?_, ?_, True.intro⟩ <;> first | rfl | exact q_lst (by simp) | exact q_grow (by simp) | exact sk rfl rfl | exact sk (q_int (by omega)) rfl | exact sk (q_bool (by simp)) rfl | exact sk (q_view rfl rfl rfl (by omega)) rfl | exact sk (q_gview rfl (by simp)) rfl | exact sk (q_nil rfl) rfl | exact sk (q_row (by simp)) rfl | exact sk_g rfl rfl rfl rfl | exact sk_v rfl rfl rfl rfl rfl | exact sk_n rfl)
  · exact ⟨Nat.le_refl _, by simp, by omega, .zeros _, by rw [val_drop_ge (by simp), val_drop_ge (Nat.le_refl _)]; simp⟩
  · skip
    rintro ⟨k, r, q⟩ ⟨hk, hl, hr, hq, hv⟩
    change awpB _ _ _ _ _ (outT (look [(0, .row TU32 (lim a)), (1, .int .u32 (d : Int)), (6, .view 0 0 0 (lim a).length), (7, .int .u64 r), (8, .int .i64 ((k : Int) - 1))])) (outS [.obj 0 80 1 [.lst TU32 q]])
    have gx := (lim_Lim a).get (i := k - 1)
    have hst := fun (h : 0 < k) => small_step (j := k - 1) (d := (d : Int)) hq (lim_Lim a) (by omega) (by omega) hr (by rw [Nat.sub_add_cancel h]; exact hv)
    refine aw_seq ?_
    refine aw_seq ?_
    refine aw_reg _ (by kernel_rfl) rfl ?_
    iterate 2 refine zst tabok rfl rfl rfl ?_
    refine ops_nil ?_
    refine aw_if rfl (fun c4 => ?_) (fun c4 => ?_)
    · try simp only [Bool.or_eq_true, Bool.and_eq_true, Bool.not_eq_true', Bool.not_eq_false', Bool.or_eq_false_iff, Bool.and_eq_false_imp, decide_eq_true_eq, decide_eq_false_iff_not, Bool.not_true, Bool.not_false, beq_iff_eq, Bool.not_eq_true, Bool.not_eq_false, Bool.true_eq_false, Bool.false_eq_true, not_or, Decidable.not_not, ne_eq] at c4
      try simp only [Int.toNat_natCast, dflt_i, dflt_b, dflt_l, dflt_p, Int.toNat_zero, gt_iff_lt, ge_iff_le] at c4
      have hst := hst (by omega)
      have h32 := or32 (x := r) (y := (lim a).getD (k - 1) 0) (by omega) gx
      have ek : ((k : Int) - 1).toNat = k - 1 := by omega
      refine aw_skip ?_
      refine aw_seq ?_
      refine aw_block ?_
      refine aw_seq ?_
      refine aw_reg _ (by kernel_rfl) rfl ?_
      refine zst tabok rfl rfl rfl ?_
      refine st (m := false) tabok rfl rfl rfl (by refine ⟨by decide, by decide, ?_⟩; show inr .u64 (r * 4294967296); simp only [inr]; omega) ?_
      iterate 7 refine stq (m := false) tabok rfl rfl (by (repeat' apply And.intro) <;> first | exact True.intro | rfl | omega | (simp only [inr, IntKind.bits, Int.toNat_natCast, dflt_i, dflt_b, dflt_l, dflt_p, Int.toNat_zero, gt_iff_lt, ge_iff_le, tnat_add, tnat_sub1, ti3, ti4, ti34, ti44, ti53, ti80]; omega) | exact fun h => h | (intro hq; rw [hq]; rfl) | (simp [SV.cellsL, SV.cells] <;> omega) | (simp_all; done)) ?_
      refine ops_nil ?_
      refine aw_seq ?_
      refine awB_goes ((by refine goes_to (tm := [(0, .row TU32 (lim a)), (1, .int .u32 (d : Int)), (6, .view 0 0 0 (lim a).length), (7, .int .u64 (r * 4294967296 + (lim a).getD (k - 1) 0)), (8, .int .i64 ((k : Int) - 1))]) (st := [.obj 0 80 1 [.lst TU32 q]]) [true] rfl rfl ⟨?_, True.intro⟩ ⟨?_, ?_, ?_, (by refine sk ?_ rfl; exact q_int (by simp only [ek, dflt_i]; exact h32)), ?_, True.intro⟩ <;> first | rfl | exact q_lst (by simp) | exact q_grow (by simp) | exact sk rfl rfl | exact sk (q_int (by omega)) rfl | exact sk (q_bool (by simp)) rfl | exact sk (q_view rfl rfl rfl (by omega)) rfl | exact sk (q_gview rfl (by simp)) rfl | exact sk (q_nil rfl) rfl | exact sk (q_row (by simp)) rfl | exact sk_g rfl rfl rfl rfl | exact sk_v rfl rfl rfl rfl rfl | exact sk_n rfl)) ?_
      change awpB _ _ _ _ _ (outT (look [(0, .row TU32 (lim a)), (1, .int .u32 (d : Int)), (6, .view 0 0 0 (lim a).length), (7, .int .u64 (r * 4294967296 + (lim a).getD (k - 1) 0)), (8, .int .i64 ((k : Int) - 1))])) (outS [.obj 0 80 1 [.lst TU32 q]])
      refine aw_reg _ (by kernel_rfl) rfl ?_
      iterate 9 refine stq (m := false) tabok rfl rfl (by (repeat' apply And.intro) <;> first | exact True.intro | rfl | omega | (simp only [inr, IntKind.bits, Int.toNat_natCast, dflt_i, dflt_b, dflt_l, dflt_p, Int.toNat_zero, gt_iff_lt, ge_iff_le, tnat_add, tnat_sub1, ti3, ti4, ti34, ti44, ti53, ti80]; omega) | exact fun h => h | (intro hq; rw [hq]; rfl) | (simp [SV.cellsL, SV.cells] <;> omega) | (simp_all; done)) ?_
      refine ops_nil ?_
      refine aw_reg _ (by kernel_rfl) rfl ?_
      iterate 5 refine stq (m := false) tabok rfl rfl (by (repeat' apply And.intro) <;> first | exact True.intro | rfl | omega | (simp only [inr, IntKind.bits, Int.toNat_natCast, dflt_i, dflt_b, dflt_l, dflt_p, Int.toNat_zero, gt_iff_lt, ge_iff_le, tnat_add, tnat_sub1, ti3, ti4, ti34, ti44, ti53, ti80]; omega) | exact fun h => h | (intro hq; rw [hq]; rfl) | (simp [SV.cellsL, SV.cells] <;> omega) | (simp_all; done)) ?_
      refine ops_nil ?_
      refine aw_reg _ (by kernel_rfl) rfl ?_
      iterate 3 refine stq (m := false) tabok rfl rfl (by (repeat' apply And.intro) <;> first | exact True.intro | rfl | omega | (simp only [inr, IntKind.bits, Int.toNat_natCast, dflt_i, dflt_b, dflt_l, dflt_p, Int.toNat_zero, gt_iff_lt, ge_iff_le, tnat_add, tnat_sub1, ti3, ti4, ti34, ti44, ti53, ti80]; omega) | exact fun h => h | (intro hq; rw [hq]; rfl) | (simp [SV.cellsL, SV.cells] <;> omega) | (simp_all; done)) ?_
      refine ops_nil ?_
      -- leaf L0.4t
      refine Exists.intro ((k - 1, (r * 4294967296 + (lim a).getD (k - 1) 0) % d, q.set (k - 1) ((r * 4294967296 + (lim a).getD (k - 1) 0) / d))) ⟨?_, ?_, ?_⟩
      · exact (by refine goes_to (tm := _) (st := _) [true] rfl rfl ⟨(by exact q_lst (by rw [ek])), True.intro⟩ ⟨?_, ?_, ?_, ?_, ?_, True.intro⟩ <;> first | exact sk rfl rfl | exact sk (q_int (by omega)) rfl | exact sk (q_bool (by simp)) rfl | exact sk (q_view rfl rfl rfl (by omega)) rfl | exact sk (q_gview rfl (by simp)) rfl | exact sk (q_nil rfl) rfl | exact sk (q_row (by simp)) rfl | exact sk_g rfl rfl rfl rfl | exact sk_v rfl rfl rfl rfl rfl | exact sk_n rfl)
      · try dsimp only
        obtain ⟨t1, t2, t3, t4⟩ := hst
        exact ⟨by omega, by simp; omega, t2, t3, t4⟩
      · (try dsimp only); omega
    · try simp only [Bool.or_eq_true, Bool.and_eq_true, Bool.not_eq_true', Bool.not_eq_false', Bool.or_eq_false_iff, Bool.and_eq_false_imp, decide_eq_true_eq, decide_eq_false_iff_not, Bool.not_true, Bool.not_false, beq_iff_eq, Bool.not_eq_true, Bool.not_eq_false, Bool.true_eq_false, Bool.false_eq_true, not_or, Decidable.not_not, ne_eq] at c4
      try simp only [Int.toNat_natCast, dflt_i, dflt_b, dflt_l, dflt_p, Int.toNat_zero, gt_iff_lt, ge_iff_le] at c4
      refine aw_exit ?_
      refine aw_seq ?_
      refine aw_reg _ (by kernel_rfl) rfl ?_
      refine zst tabok rfl rfl rfl ?_
      refine sca [0] (trim_sc 0 (lim a).length q (by omega) (by omega)) rfl rfl (by kernel_rfl) rfl (by kernel_rfl) rfl rfl rfl rfl rfl rfl rfl rfl rfl rfl ⟨(by first | rfl | exact q_obj rfl), True.intro⟩ (.cons (by first | exact argw_same | exact argw_nil | exact argw_tt | exact argw_ff | exact argw_eq rfl) .nil) ?_
      iterate 4 refine stq (m := false) tabok rfl rfl (by (repeat' apply And.intro) <;> first | exact True.intro | rfl | omega | (simp only [inr, IntKind.bits, Int.toNat_natCast, dflt_i, dflt_b, dflt_l, dflt_p, Int.toNat_zero, gt_iff_lt, ge_iff_le, tnat_add, tnat_sub1, ti3, ti4, ti34, ti44, ti53, ti80]; omega) | exact fun h => h | (intro hq; rw [hq]; rfl) | (simp [SV.cellsL, SV.cells] <;> omega) | (simp_all; done)) ?_
      refine ops_nil ?_
      refine aw_ret ?_
      -- leaf ret.4f
      refine ret_c ?_
      have e : k = 0 := by omega
      subst e
      have hv2 : val q = ((a / d : Nat) : Int) ∧ r = ((a % d : Nat) : Int) := divmod_eq (by omega) hr (by rw [← val_lim a]; exact hv)
      obtain ⟨e1, e2⟩ := tn_of (l := q) (n := (lim a).length) hq (by omega) (by rw [List.take_of_length_le (by omega)]; exact hv2.1)
      have e3 := tn_le q (lim a).length
      exact fs_tup (.cons (fs_view rfl rfl (by omega) (by rw [e1]; exact e2)) (.cons (fs_int hv2.2) .nil))
end Go.Sim
end
section
namespace Go.Sim
open Go Go.Proofs
set_option maxRecDepth 10000
set_option autoImplicit false
set_option linter.unusedSimpArgs false
set_option linter.unusedVariables false
theorem len32_ok (x : Nat) (hx : x < 4294967296) : CS Try.prog 108 [.int .u32 (x : Int)] (.int .i64 (bl x : Nat)) := by
  refine fn_c [2] Try.func108 Try.ntmps108 rfl rfl rfl rfl ?_
  refine aw_seq ?_
  refine aw_reg _ (by kernel_rfl) rfl ?_
  refine zst tabok rfl rfl rfl ?_
  refine ops_nil ?_
  refine aw_seq ?_
  refine aw_seq ?_
  refine aw_reg _ (by kernel_rfl) rfl ?_
  iterate 2 refine zst tabok rfl rfl rfl ?_
  refine ops_nil ?_
  refine aw_if rfl (fun c1 => ?_) (fun c1 => ?_)
  · try simp only [Bool.or_eq_true, Bool.and_eq_true, Bool.not_eq_true', Bool.not_eq_false', Bool.or_eq_false_iff, Bool.and_eq_false_imp, decide_eq_true_eq, decide_eq_false_iff_not, Bool.not_true, Bool.not_false, beq_iff_eq, Bool.not_eq_true, Bool.not_eq_false, Bool.true_eq_false, Bool.false_eq_true, not_or, Decidable.not_not, ne_eq] at c1
    try simp only [Int.toNat_natCast, dflt_i, dflt_b, dflt_l, dflt_p, Int.toNat_zero, gt_iff_lt, ge_iff_le] at c1
    obtain ⟨y, n, hy, hn, hb⟩ : ∃ y n : Nat, y = x / 65536 ∧ n = 16 ∧ bl x = n + bl y := ⟨_, _, rfl, rfl, bl_d16 (by omega)⟩
    refine aw_seq ?_
    refine aw_reg _ (by kernel_rfl) rfl ?_
    iterate 3 refine stq (m := false) tabok rfl rfl (by (repeat' apply And.intro) <;> first | exact True.intro | rfl | omega | (simp only [inr, IntKind.bits, Int.toNat_natCast, dflt_i, dflt_b, dflt_l, dflt_p, Int.toNat_zero, gt_iff_lt, ge_iff_le, tnat_add, tnat_sub1, tnat_div32, tnat_mod32, ti3, ti4, ti34, ti44, ti53, ti80]; omega) | exact fun h => h | (intro hq; rw [hq]; rfl) | (simp [SV.cellsL, SV.cells] <;> omega) | (simp_all; done)) ?_
    refine ops_nil ?_
    refine aw_reg _ (by kernel_rfl) rfl ?_
    refine zst tabok rfl rfl rfl ?_
    refine ops_nil ?_
    refine aw_seq ?_
    refine aw_seq ?_
    refine awB_goes (goes_to (tm := [(0, .int .u32 (y : Int)), (2, .int .i64 (n : Int))]) (st := []) [] rfl rfl True.intro ⟨(by refine sk ?_ rfl; first | exact q_int (by omega) | exact q_int (by show (x : Int) / 65536 = y; omega)), (by refine sk ?_ rfl; exact q_int (by omega)), True.intro⟩) ?_
    change awpB _ _ _ _ _ (outT (look [(0, .int .u32 (y : Int)), (2, .int .i64 (n : Int))])) (outS [])
    refine aw_reg _ (by kernel_rfl) rfl ?_
    iterate 2 refine zst tabok rfl rfl rfl ?_
    refine ops_nil ?_
    refine aw_if rfl (fun c4 => ?_) (fun c4 => ?_)
    · try simp only [Bool.or_eq_true, Bool.and_eq_true, Bool.not_eq_true', Bool.not_eq_false', Bool.or_eq_false_iff, Bool.and_eq_false_imp, decide_eq_true_eq, decide_eq_false_iff_not, Bool.not_true, Bool.not_false, beq_iff_eq, Bool.not_eq_true, Bool.not_eq_false, Bool.true_eq_false, Bool.false_eq_true, not_or, Decidable.not_not, ne_eq] at c4
      try simp only [Int.toNat_natCast, dflt_i, dflt_b, dflt_l, dflt_p, Int.toNat_zero, gt_iff_lt, ge_iff_le] at c4
      obtain ⟨u, m, hu, hm, hb2, hu2⟩ : ∃ u m : Nat, u = y / 256 ∧ m = n + 8 ∧ bl x = m + bl u ∧ u < 256 := ⟨_, _, rfl, rfl, by rw [hb, bl_d8 (x := y) (by omega)]; omega, by omega⟩
      refine aw_seq ?_
      refine aw_reg _ (by kernel_rfl) rfl ?_
      iterate 3 refine stq (m := false) tabok rfl rfl (by (repeat' apply And.intro) <;> first | exact True.intro | rfl | omega | (simp only [inr, IntKind.bits, Int.toNat_natCast, dflt_i, dflt_b, dflt_l, dflt_p, Int.toNat_zero, gt_iff_lt, ge_iff_le, tnat_add, tnat_sub1, tnat_div32, tnat_mod32, ti3, ti4, ti34, ti44, ti53, ti80]; omega) | exact fun h => h | (intro hq; rw [hq]; rfl) | (simp [SV.cellsL, SV.cells] <;> omega) | (simp_all; done)) ?_
      refine ops_nil ?_
      refine aw_reg _ (by kernel_rfl) rfl ?_
      iterate 3 refine stq (m := false) tabok rfl rfl (by (repeat' apply And.intro) <;> first | exact True.intro | rfl | omega | (simp only [inr, IntKind.bits, Int.toNat_natCast, dflt_i, dflt_b, dflt_l, dflt_p, Int.toNat_zero, gt_iff_lt, ge_iff_le, tnat_add, tnat_sub1, tnat_div32, tnat_mod32, ti3, ti4, ti34, ti44, ti53, ti80]; omega) | exact fun h => h | (intro hq; rw [hq]; rfl) | (simp [SV.cellsL, SV.cells] <;> omega) | (simp_all; done)) ?_
      refine ops_nil ?_
      refine aw_seq ?_
      refine awB_goes (goes_to (tm := [(0, .int .u32 (u : Int)), (2, .int .i64 (m : Int))]) (st := []) [] rfl rfl True.intro ⟨(by refine sk ?_ rfl; first | exact q_int (by omega) | exact q_int (by show (y : Int) / 256 = u; omega)), (by refine sk ?_ rfl; exact q_int (by omega)), True.intro⟩) ?_
      change awpB _ _ _ _ _ (outT (look [(0, .int .u32 (u : Int)), (2, .int .i64 (m : Int))])) (outS [])
      refine aw_reg _ (by kernel_rfl) rfl ?_
      iterate 3 refine stq (m := false) tabok rfl rfl (by (repeat' apply And.intro) <;> first | exact True.intro | rfl | omega | (simp only [inr, IntKind.bits, Int.toNat_natCast, dflt_i, dflt_b, dflt_l, dflt_p, Int.toNat_zero, gt_iff_lt, ge_iff_le, tnat_add, tnat_sub1, tnat_div32, tnat_mod32, ti3, ti4, ti34, ti44, ti53, ti80]; omega) | exact fun h => h | (intro hq; rw [hq]; rfl) | (simp [SV.cellsL, SV.cells] <;> omega) | (simp_all; done)) ?_
      refine st (m := false) tabok rfl rfl rfl (by exact ⟨by omega, by show (u : Int) < 256; omega⟩) ?_
      iterate 2 refine st (m := true) tabok rfl rfl rfl (by (repeat' apply And.intro); all_goals first | exact True.intro | rfl | omega | (simp only [inr]; omega) | (simp only [IntKind.bits]; omega) | exact fun h => h | (intro hq; rw [hq]; rfl) | (simp only [Int.toNat_natCast, dflt_i, dflt_b, dflt_l, dflt_p, Int.toNat_zero, gt_iff_lt, ge_iff_le]; omega) | (simp only [ti3, ti4, ti34, ti44, ti53, ti80]; omega) | (simp [ti3, ti4, ti34, ti44, ti53, ti80]; omega) | (simp_all; done) | (simp [SV.cellsL, SV.cells]; done) | (simp [SV.cellsL, SV.cells]; omega) | (simp only [inr, Int.toNat_natCast, dflt_i, dflt_b, dflt_l, dflt_p, Int.toNat_zero, gt_iff_lt, ge_iff_le, tnat_add, tnat_sub1, tnat_div32, tnat_mod32]; omega)) ?_
      refine zst tabok rfl rfl rfl ?_
      refine ops_nil ?_
      refine aw_ret ?_
      -- leaf ret.1t.4t
      refine ret_c ?_
      have h2 := tb8_at (y := (u : Int)) (by omega) (by omega)
      have h3 := bl_small (x := u) (k := 8) (by omega)
      refine fs_int ((congrArg (fun z : Int => IntKind.wrap .i64 ((m : Int) + IntKind.wrap .i64 z)) h2).trans ?_)
      rw [Int.toNat_natCast, wr64 (n := (bl u : Nat)) (by omega), wr64 (by omega)]
      omega
    · try simp only [Bool.or_eq_true, Bool.and_eq_true, Bool.not_eq_true', Bool.not_eq_false', Bool.or_eq_false_iff, Bool.and_eq_false_imp, decide_eq_true_eq, decide_eq_false_iff_not, Bool.not_true, Bool.not_false, beq_iff_eq, Bool.not_eq_true, Bool.not_eq_false, Bool.true_eq_false, Bool.false_eq_true, not_or, Decidable.not_not, ne_eq] at c4
      try simp only [Int.toNat_natCast, dflt_i, dflt_b, dflt_l, dflt_p, Int.toNat_zero, gt_iff_lt, ge_iff_le] at c4
      obtain ⟨u, m, hu, hm, hb2, hu2⟩ : ∃ u m : Nat, u = y ∧ m = n ∧ bl x = m + bl u ∧ u < 256 := ⟨_, _, rfl, rfl, hb, by omega⟩
      refine aw_skip ?_
      refine aw_seq ?_
      refine awB_goes (goes_to (tm := [(0, .int .u32 (u : Int)), (2, .int .i64 (m : Int))]) (st := []) [] rfl rfl True.intro ⟨(by refine sk ?_ rfl; first | exact q_int (by omega) | exact q_int (by show (y : Int) / 256 = u; omega)), (by refine sk ?_ rfl; exact q_int (by omega)), True.intro⟩) ?_
      change awpB _ _ _ _ _ (outT (look [(0, .int .u32 (u : Int)), (2, .int .i64 (m : Int))])) (outS [])
      refine aw_reg _ (by kernel_rfl) rfl ?_
      iterate 3 refine stq (m := false) tabok rfl rfl (by (repeat' apply And.intro) <;> first | exact True.intro | rfl | omega | (simp only [inr, IntKind.bits, Int.toNat_natCast, dflt_i, dflt_b, dflt_l, dflt_p, Int.toNat_zero, gt_iff_lt, ge_iff_le, tnat_add, tnat_sub1, tnat_div32, tnat_mod32, ti3, ti4, ti34, ti44, ti53, ti80]; omega) | exact fun h => h | (intro hq; rw [hq]; rfl) | (simp [SV.cellsL, SV.cells] <;> omega) | (simp_all; done)) ?_
      refine st (m := false) tabok rfl rfl rfl (by exact ⟨by omega, by show (u : Int) < 256; omega⟩) ?_
      iterate 2 refine st (m := true) tabok rfl rfl rfl (by (repeat' apply And.intro); all_goals first | exact True.intro | rfl | omega | (simp only [inr]; omega) | (simp only [IntKind.bits]; omega) | exact fun h => h | (intro hq; rw [hq]; rfl) | (simp only [Int.toNat_natCast, dflt_i, dflt_b, dflt_l, dflt_p, Int.toNat_zero, gt_iff_lt, ge_iff_le]; omega) | (simp only [ti3, ti4, ti34, ti44, ti53, ti80]; omega) | (simp [ti3, ti4, ti34, ti44, ti53, ti80]; omega) | (simp_all; done) | (simp [SV.cellsL, SV.cells]; done) | (simp [SV.cellsL, SV.cells]; omega) | (simp only [inr, Int.toNat_natCast, dflt_i, dflt_b, dflt_l, dflt_p, Int.toNat_zero, gt_iff_lt, ge_iff_le, tnat_add, tnat_sub1, tnat_div32, tnat_mod32]; omega)) ?_
      refine zst tabok rfl rfl rfl ?_
      refine ops_nil ?_
      refine aw_ret ?_
      -- leaf ret.1t.4f
      refine ret_c ?_
      have h2 := tb8_at (y := (u : Int)) (by omega) (by omega)
      have h3 := bl_small (x := u) (k := 8) (by omega)
      refine fs_int ((congrArg (fun z : Int => IntKind.wrap .i64 ((m : Int) + IntKind.wrap .i64 z)) h2).trans ?_)
      rw [Int.toNat_natCast, wr64 (n := (bl u : Nat)) (by omega), wr64 (by omega)]
      omega
  · try simp only [Bool.or_eq_true, Bool.and_eq_true, Bool.not_eq_true', Bool.not_eq_false', Bool.or_eq_false_iff, Bool.and_eq_false_imp, decide_eq_true_eq, decide_eq_false_iff_not, Bool.not_true, Bool.not_false, beq_iff_eq, Bool.not_eq_true, Bool.not_eq_false, Bool.true_eq_false, Bool.false_eq_true, not_or, Decidable.not_not, ne_eq] at c1
    try simp only [Int.toNat_natCast, dflt_i, dflt_b, dflt_l, dflt_p, Int.toNat_zero, gt_iff_lt, ge_iff_le] at c1
    obtain ⟨y, n, hy, hn, hb⟩ : ∃ y n : Nat, y = x ∧ n = 0 ∧ bl x = n + bl y := ⟨_, _, rfl, rfl, by omega⟩
    refine aw_skip ?_
    refine aw_seq ?_
    refine aw_seq ?_
    refine awB_goes (goes_to (tm := [(0, .int .u32 (y : Int)), (2, .int .i64 (n : Int))]) (st := []) [] rfl rfl True.intro ⟨(by refine sk ?_ rfl; first | exact q_int (by omega) | exact q_int (by show (x : Int) / 65536 = y; omega)), (by refine sk ?_ rfl; exact q_int (by omega)), True.intro⟩) ?_
    change awpB _ _ _ _ _ (outT (look [(0, .int .u32 (y : Int)), (2, .int .i64 (n : Int))])) (outS [])
    refine aw_reg _ (by kernel_rfl) rfl ?_
    iterate 2 refine zst tabok rfl rfl rfl ?_
    refine ops_nil ?_
    refine aw_if rfl (fun c4 => ?_) (fun c4 => ?_)
    · try simp only [Bool.or_eq_true, Bool.and_eq_true, Bool.not_eq_true', Bool.not_eq_false', Bool.or_eq_false_iff, Bool.and_eq_false_imp, decide_eq_true_eq, decide_eq_false_iff_not, Bool.not_true, Bool.not_false, beq_iff_eq, Bool.not_eq_true, Bool.not_eq_false, Bool.true_eq_false, Bool.false_eq_true, not_or, Decidable.not_not, ne_eq] at c4
      try simp only [Int.toNat_natCast, dflt_i, dflt_b, dflt_l, dflt_p, Int.toNat_zero, gt_iff_lt, ge_iff_le] at c4
      obtain ⟨u, m, hu, hm, hb2, hu2⟩ : ∃ u m : Nat, u = y / 256 ∧ m = n + 8 ∧ bl x = m + bl u ∧ u < 256 := ⟨_, _, rfl, rfl, by rw [hb, bl_d8 (x := y) (by omega)]; omega, by omega⟩
      refine aw_seq ?_
      refine aw_reg _ (by kernel_rfl) rfl ?_
      iterate 3 refine stq (m := false) tabok rfl rfl (by (repeat' apply And.intro) <;> first | exact True.intro | rfl | omega | (simp only [inr, IntKind.bits, Int.toNat_natCast, dflt_i, dflt_b, dflt_l, dflt_p, Int.toNat_zero, gt_iff_lt, ge_iff_le, tnat_add, tnat_sub1, tnat_div32, tnat_mod32, ti3, ti4, ti34, ti44, ti53, ti80]; omega) | exact fun h => h | (intro hq; rw [hq]; rfl) | (simp [SV.cellsL, SV.cells] <;> omega) | (simp_all; done)) ?_
      refine ops_nil ?_
      refine aw_reg _ (by kernel_rfl) rfl ?_
      iterate 3 refine stq (m := false) tabok rfl rfl (by (repeat' apply And.intro) <;> first | exact True.intro | rfl | omega | (simp only [inr, IntKind.bits, Int.toNat_natCast, dflt_i, dflt_b, dflt_l, dflt_p, Int.toNat_zero, gt_iff_lt, ge_iff_le, tnat_add, tnat_sub1, tnat_div32, tnat_mod32, ti3, ti4, ti34, ti44, ti53, ti80]; omega) | exact fun h => h | (intro hq; rw [hq]; rfl) | (simp [SV.cellsL, SV.cells] <;> omega) | (simp_all; done)) ?_
      refine ops_nil ?_
      refine aw_seq ?_
      refine awB_goes (goes_to (tm := [(0, .int .u32 (u : Int)), (2, .int .i64 (m : Int))]) (st := []) [] rfl rfl True.intro ⟨(by refine sk ?_ rfl; first | exact q_int (by omega) | exact q_int (by show (y : Int) / 256 = u; omega)), (by refine sk ?_ rfl; exact q_int (by omega)), True.intro⟩) ?_
      change awpB _ _ _ _ _ (outT (look [(0, .int .u32 (u : Int)), (2, .int .i64 (m : Int))])) (outS [])
      refine aw_reg _ (by kernel_rfl) rfl ?_
      iterate 3 refine stq (m := false) tabok rfl rfl (by (repeat' apply And.intro) <;> first | exact True.intro | rfl | omega | (simp only [inr, IntKind.bits, Int.toNat_natCast, dflt_i, dflt_b, dflt_l, dflt_p, Int.toNat_zero, gt_iff_lt, ge_iff_le, tnat_add, tnat_sub1, tnat_div32, tnat_mod32, ti3, ti4, ti34, ti44, ti53, ti80]; omega) | exact fun h => h | (intro hq; rw [hq]; rfl) | (simp [SV.cellsL, SV.cells] <;> omega) | (simp_all; done)) ?_
      refine st (m := false) tabok rfl rfl rfl (by exact ⟨by omega, by show (u : Int) < 256; omega⟩) ?_
      iterate 2 refine st (m := true) tabok rfl rfl rfl (by (repeat' apply And.intro); all_goals first | exact True.intro | rfl | omega | (simp only [inr]; omega) | (simp only [IntKind.bits]; omega) | exact fun h => h | (intro hq; rw [hq]; rfl) | (simp only [Int.toNat_natCast, dflt_i, dflt_b, dflt_l, dflt_p, Int.toNat_zero, gt_iff_lt, ge_iff_le]; omega) | (simp only [ti3, ti4, ti34, ti44, ti53, ti80]; omega) | (simp [ti3, ti4, ti34, ti44, ti53, ti80]; omega) | (simp_all; done) | (simp [SV.cellsL, SV.cells]; done) | (simp [SV.cellsL, SV.cells]; omega) | (simp only [inr, Int.toNat_natCast, dflt_i, dflt_b, dflt_l, dflt_p, Int.toNat_zero, gt_iff_lt, ge_iff_le, tnat_add, tnat_sub1, tnat_div32, tnat_mod32]; omega)) ?_
      refine zst tabok rfl rfl rfl ?_
      refine ops_nil ?_
      refine aw_ret ?_
      -- leaf ret.1f.4t
      refine ret_c ?_
      have h2 := tb8_at (y := (u : Int)) (by omega) (by omega)
      have h3 := bl_small (x := u) (k := 8) (by omega)
      refine fs_int ((congrArg (fun z : Int => IntKind.wrap .i64 ((m : Int) + IntKind.wrap .i64 z)) h2).trans ?_)
      rw [Int.toNat_natCast, wr64 (n := (bl u : Nat)) (by omega), wr64 (by omega)]
      omega
    · try simp only [Bool.or_eq_true, Bool.and_eq_true, Bool.not_eq_true', Bool.not_eq_false', Bool.or_eq_false_iff, Bool.and_eq_false_imp, decide_eq_true_eq, decide_eq_false_iff_not, Bool.not_true, Bool.not_false, beq_iff_eq, Bool.not_eq_true, Bool.not_eq_false, Bool.true_eq_false, Bool.false_eq_true, not_or, Decidable.not_not, ne_eq] at c4
      try simp only [Int.toNat_natCast, dflt_i, dflt_b, dflt_l, dflt_p, Int.toNat_zero, gt_iff_lt, ge_iff_le] at c4
      obtain ⟨u, m, hu, hm, hb2, hu2⟩ : ∃ u m : Nat, u = y ∧ m = n ∧ bl x = m + bl u ∧ u < 256 := ⟨_, _, rfl, rfl, hb, by omega⟩
      refine aw_skip ?_
      refine aw_seq ?_
      refine awB_goes (goes_to (tm := [(0, .int .u32 (u : Int)), (2, .int .i64 (m : Int))]) (st := []) [] rfl rfl True.intro ⟨(by refine sk ?_ rfl; first | exact q_int (by omega) | exact q_int (by show (y : Int) / 256 = u; omega)), (by refine sk ?_ rfl; exact q_int (by omega)), True.intro⟩) ?_
      change awpB _ _ _ _ _ (outT (look [(0, .int .u32 (u : Int)), (2, .int .i64 (m : Int))])) (outS [])
      refine aw_reg _ (by kernel_rfl) rfl ?_
      iterate 3 refine stq (m := false) tabok rfl rfl (by (repeat' apply And.intro) <;> first | exact True.intro | rfl | omega | (simp only [inr, IntKind.bits, Int.toNat_natCast, dflt_i, dflt_b, dflt_l, dflt_p, Int.toNat_zero, gt_iff_lt, ge_iff_le, tnat_add, tnat_sub1, tnat_div32, tnat_mod32, ti3, ti4, ti34, ti44, ti53, ti80]; omega) | exact fun h => h | (intro hq; rw [hq]; rfl) | (simp [SV.cellsL, SV.cells] <;> omega) | (simp_all; done)) ?_
      refine st (m := false) tabok rfl rfl rfl (by exact ⟨by omega, by show (u : Int) < 256; omega⟩) ?_
      iterate 2 refine st (m := true) tabok rfl rfl rfl (by (repeat' apply And.intro); all_goals first | exact True.intro | rfl | omega | (simp only [inr]; omega) | (simp only [IntKind.bits]; omega) | exact fun h => h | (intro hq; rw [hq]; rfl) | (simp only [Int.toNat_natCast, dflt_i, dflt_b, dflt_l, dflt_p, Int.toNat_zero, gt_iff_lt, ge_iff_le]; omega) | (simp only [ti3, ti4, ti34, ti44, ti53, ti80]; omega) | (simp [ti3, ti4, ti34, ti44, ti53, ti80]; omega) | (simp_all; done) | (simp [SV.cellsL, SV.cells]; done) | (simp [SV.cellsL, SV.cells]; omega) | (simp only [inr, Int.toNat_natCast, dflt_i, dflt_b, dflt_l, dflt_p, Int.toNat_zero, gt_iff_lt, ge_iff_le, tnat_add, tnat_sub1, tnat_div32, tnat_mod32]; omega)) ?_
      refine zst tabok rfl rfl rfl ?_
      refine ops_nil ?_
      refine aw_ret ?_
      -- leaf ret.1f.4f
      refine ret_c ?_
      have h2 := tb8_at (y := (u : Int)) (by omega) (by omega)
      have h3 := bl_small (x := u) (k := 8) (by omega)
      refine fs_int ((congrArg (fun z : Int => IntKind.wrap .i64 ((m : Int) + IntKind.wrap .i64 z)) h2).trans ?_)
      rw [Int.toNat_natCast, wr64 (n := (bl u : Nat)) (by omega), wr64 (by omega)]
      omega
theorem len32_at (x : Int) (n : Nat) (h : x = n) (hx : n < 4294967296) : CS Try.prog 108 [.int .u32 x] (.int .i64 (bl n : Nat)) := by
  subst h
  exact len32_ok n hx
theorem size_ok (a : Nat) (ha : Sm a) : CS Try.prog 95 [.row TU32 (lim a)] (.int .i64 (bl a : Nat)) := by
  have ha' : (lim a).length ≤ 1000 := ha
  refine fn_c [2] Try.func95 Try.ntmps95 rfl rfl rfl rfl ?_
  refine aw_seq ?_
  refine aw_reg _ (by kernel_rfl) rfl ?_
  refine zst tabok rfl rfl rfl ?_
  refine ops_nil ?_
  refine aw_seq ?_
  refine aw_reg _ (by kernel_rfl) rfl ?_
  refine zst tabok rfl rfl rfl ?_
  refine sc (trim_ok a ha) rfl rfl (by kernel_rfl) rfl (by kernel_rfl) (.cons (by first | exact argw_same | exact argw_nil | exact argw_tt | exact argw_ff | exact argw_eq rfl) .nil) ?_
  refine zst tabok rfl rfl rfl ?_
  refine ops_nil ?_
  refine aw_seq ?_
  refine aw_seq ?_
  refine aw_reg _ (by kernel_rfl) rfl ?_
  iterate 3 refine zst tabok rfl rfl rfl ?_
  refine ops_nil ?_
  refine aw_if rfl (fun c2 => ?_) (fun c2 => ?_)
  · try simp only [Bool.or_eq_true, Bool.and_eq_true, Bool.not_eq_true', Bool.not_eq_false', Bool.or_eq_false_iff, Bool.and_eq_false_imp, decide_eq_true_eq, decide_eq_false_iff_not, Bool.not_true, Bool.not_false, beq_iff_eq, Bool.not_eq_true, Bool.not_eq_false, Bool.true_eq_false, Bool.false_eq_true, not_or, Decidable.not_not, ne_eq] at c2
    try simp only [Int.toNat_natCast, dflt_i, dflt_b, dflt_l, dflt_p, Int.toNat_zero, gt_iff_lt, ge_iff_le] at c2
    refine aw_seq ?_
    refine aw_reg _ (by kernel_rfl) rfl ?_
    refine zst tabok rfl rfl rfl ?_
    refine ops_nil ?_
    refine aw_ret ?_
    -- leaf ret.2t
    refine ret_c ?_
    have e : a = 0 := lim_nil.1 (List.eq_nil_of_length_eq_zero (by omega))
    subst e
    exact fs_int rfl
  · try simp only [Bool.or_eq_true, Bool.and_eq_true, Bool.not_eq_true', Bool.not_eq_false', Bool.or_eq_false_iff, Bool.and_eq_false_imp, decide_eq_true_eq, decide_eq_false_iff_not, Bool.not_true, Bool.not_false, beq_iff_eq, Bool.not_eq_true, Bool.not_eq_false, Bool.true_eq_false, Bool.false_eq_true, not_or, Decidable.not_not, ne_eq] at c2
    try simp only [Int.toNat_natCast, dflt_i, dflt_b, dflt_l, dflt_p, Int.toNat_zero, gt_iff_lt, ge_iff_le] at c2
    have h0 : 0 < a := pos_len c2
    have ht := top_limb h0
    have hsz := size_eq h0
    have hx : a / 2 ^ (32 * ((lim a).length - 1)) < 4294967296 := by have := (lim_Lim a).get (i := (lim a).length - 1); omega
    have hbl := bl_small (k := 32) hx
    refine aw_skip ?_
    refine aw_seq ?_
    refine aw_reg _ (by kernel_rfl) rfl ?_
    iterate 10 refine stq (m := false) tabok rfl rfl (by (repeat' apply And.intro) <;> first | exact True.intro | rfl | omega | (simp only [inr, IntKind.bits, Int.toNat_natCast, dflt_i, dflt_b, dflt_l, dflt_p, Int.toNat_zero, gt_iff_lt, ge_iff_le, tnat_add, tnat_sub1, tnat_div32, tnat_mod32, ti3, ti4, ti34, ti44, ti53, ti80]; omega) | exact fun h => h | (intro hq; rw [hq]; rfl) | (simp [SV.cellsL, SV.cells] <;> omega) | (simp_all; done)) ?_
    refine sc (len32_at ((lim a).getD (((lim a).length : Int) - 1).toNat 0) _ (by rw [tnat_sub1]; exact ht.1) hx) rfl rfl (by kernel_rfl) rfl (by kernel_rfl) (.cons (by first | exact argw_same | exact argw_nil | exact argw_tt | exact argw_ff | exact argw_eq rfl) .nil) ?_
    iterate 2 refine stq (m := false) tabok rfl rfl (by (repeat' apply And.intro) <;> first | exact True.intro | rfl | omega | (simp only [inr, IntKind.bits, Int.toNat_natCast, dflt_i, dflt_b, dflt_l, dflt_p, Int.toNat_zero, gt_iff_lt, ge_iff_le, tnat_add, tnat_sub1, tnat_div32, tnat_mod32, ti3, ti4, ti34, ti44, ti53, ti80]; omega) | exact fun h => h | (intro hq; rw [hq]; rfl) | (simp [SV.cellsL, SV.cells] <;> omega) | (simp_all; done)) ?_
    refine ops_nil ?_
    refine aw_ret ?_
    -- leaf ret.2f
    refine ret_c ?_
    exact fs_int (by omega)
theorem less_sc (g n : Nat) (l : List Int) (a b : Nat) (hl : Lim l) (hn : n ≤ l.length) (hL : l.length ≤ 1000000) (hv : l.take n = lim a) (hb : b ≤ a) : SC Try.prog 96 [.view 0 g 0 n, .row TU32 (lim b)] [.obj g 80 1 [.lst TU32 l]] (.view 0 g 0 (lim (a - b)).length) [.obj g 80 1 [.lst TU32 (padL n (a - b) ++ l.drop n)]] := by
  have hna := lim_take hv hn
  have hlb := lim_len_le hb
  refine fn_s [4] rfl Try.func96 Try.ntmps96 rfl rfl rfl ?_
  refine aw_seq ?_
  refine aw_reg _ (by kernel_rfl) rfl ?_
  refine zst tabok rfl rfl rfl ?_
  refine ops_nil ?_
  refine aw_seq ?_
  refine aw_reg _ (by kernel_rfl) rfl ?_
  refine zst tabok rfl rfl rfl ?_
  refine ops_nil ?_
  refine aw_seq ?_
  refine aw_seq ?_
  refine aw_reg _ (by kernel_rfl) rfl ?_
  iterate 3 refine zst tabok rfl rfl rfl ?_
  refine ops_nil ?_
  refine aw_block ?_
  refine aw_loop (X := (Nat) × (Int) × (List Int)) (fun (x : (Nat) × (Int) × (List Int)) => match x with | (i, c, o) => outT (look [(0, .view 0 g 0 n), (1, .row TU32 (lim b)), (5, .int .u64 c), (9, .int .i64 n), (10, .int .i64 i)])) (fun (x : (Nat) × (Int) × (List Int)) => match x with | (i, c, o) => outS [.obj g 80 1 [.lst TU32 (o ++ l.drop i)]]) (fun (x : (Nat) × (Int) × (List Int)) => match x with | (i, c, o) => (i ≤ n ∧ o.length = i) ∧ (Lim o) ∧ (0 ≤ c ∧ c ≤ 1) ∧ (val o + pw i * (val ((lim a).drop i) - val ((lim b).drop i) - c) = (a : Int) - b)) (fun (x : (Nat) × (Int) × (List Int)) => match x with | (i, c, o) => n - i) ((0, 0, [])) ?_ ?_ ?_
  -- leaf L0:entry
  · exact (by refine goes_to (tm := _) (st := _) [true] rfl rfl ⟨?_, True.intro⟩ ⟨?_, ?_, ?_, ?_, ?_, True.intro⟩ <;> first | rfl | exact q_lst (by simp) | exact q_grow (by simp) | exact sk rfl rfl | exact sk (q_int (by omega)) rfl | exact sk (q_bool (by simp)) rfl | exact sk (q_view rfl rfl rfl (by omega)) rfl | exact sk (q_gview rfl (by simp)) rfl | exact sk (q_nil rfl) rfl | exact sk (q_row (by simp)) rfl | exact sk_g rfl rfl rfl rfl | exact sk_v rfl rfl rfl rfl rfl | exact sk_n rfl)
  · exact ⟨by simp, .nil, by omega, by simp [pw_zero, val_lim, val]⟩
  · skip
    rintro ⟨i, c, o⟩ ⟨hi, ho, hc, hw⟩
    change awpB _ _ _ _ _ (outT (look [(0, .view 0 g 0 n), (1, .row TU32 (lim b)), (5, .int .u64 c), (9, .int .i64 n), (10, .int .i64 i)])) (outS [.obj g 80 1 [.lst TU32 (o ++ l.drop i)]])
    have gm := getD_mid (l := l) hi.2
    have gx := hl.get (i := i)
    have gy := (lim_Lim b).get (i := i)
    rw [← gm] at gx
    have glen : (o ++ l.drop i).length = l.length := by simp; omega
    refine aw_seq ?_
    refine aw_reg _ (by kernel_rfl) rfl ?_
    refine zst tabok rfl rfl rfl ?_
    refine ops_nil ?_
    refine aw_seq ?_
    refine aw_if rfl (fun c3 => ?_) (fun c3 => ?_)
    · try simp only [Bool.or_eq_true, Bool.and_eq_true, Bool.not_eq_true', Bool.not_eq_false', Bool.or_eq_false_iff, Bool.and_eq_false_imp, decide_eq_true_eq, decide_eq_false_iff_not, Bool.not_true, Bool.not_false, beq_iff_eq, Bool.not_eq_true, Bool.not_eq_false, Bool.true_eq_false, Bool.false_eq_true, not_or, Decidable.not_not, ne_eq] at c3
      try simp only [Int.toNat_natCast, dflt_i, dflt_b, dflt_l, dflt_p, Int.toNat_zero, gt_iff_lt, ge_iff_le] at c3
      have ga : l.getD i 0 = (lim a).getD i 0 := by rw [← hv, getD_take (by omega)]
      have hst := fun (t : Int) (ht : t = ((lim a).getD i 0 - c - (lim b).getD i 0) % 18446744073709551616) => less_step (lim_Lim a) (lim_Lim b) ho hi.2 hc ht hw
      refine aw_skip ?_
      refine aw_seq ?_
      refine aw_block ?_
      refine aw_seq ?_
      refine aw_reg _ (by kernel_rfl) rfl ?_
      iterate 2 refine zst tabok rfl rfl rfl ?_
      refine ops_nil ?_
      refine aw_seq ?_
      refine aw_reg _ (by kernel_rfl) rfl ?_
      iterate 6 refine stq (m := false) tabok rfl rfl (by (repeat' apply And.intro) <;> first | exact True.intro | rfl | omega | (simp only [inr, IntKind.bits, Int.toNat_natCast, dflt_i, dflt_b, dflt_l, dflt_p, Int.toNat_zero, gt_iff_lt, ge_iff_le, tnat_add, tnat_sub1, tnat_div32, tnat_mod32, ti3, ti4, ti34, ti44, ti53, ti80]; omega) | exact fun h => h | (intro hq; rw [hq]; rfl) | (simp [SV.cellsL, SV.cells] <;> omega) | (simp_all; done)) ?_
      refine st (m := true) tabok rfl rfl rfl (by (repeat' apply And.intro); all_goals first | exact True.intro | rfl | omega | (simp only [inr]; omega) | (simp only [IntKind.bits]; omega) | exact fun h => h | (intro hq; rw [hq]; rfl) | (simp only [Int.toNat_natCast, dflt_i, dflt_b, dflt_l, dflt_p, Int.toNat_zero, gt_iff_lt, ge_iff_le]; omega) | (simp only [ti3, ti4, ti34, ti44, ti53, ti80]; omega) | (simp [ti3, ti4, ti34, ti44, ti53, ti80]; omega) | (simp_all; done) | (simp [SV.cellsL, SV.cells]; done) | (simp [SV.cellsL, SV.cells]; omega) | (simp only [inr, Int.toNat_natCast, dflt_i, dflt_b, dflt_l, dflt_p, Int.toNat_zero, gt_iff_lt, ge_iff_le, tnat_add, tnat_sub1, tnat_div32, tnat_mod32]; omega)) ?_
      refine zst tabok rfl rfl rfl ?_
      refine ops_nil ?_
      refine aw_seq ?_
      refine aw_seq ?_
      refine aw_reg _ (by kernel_rfl) rfl ?_
      iterate 4 refine zst tabok rfl rfl rfl ?_
      refine ops_nil ?_
      refine aw_if rfl (fun c6 => ?_) (fun c6 => ?_)
      · try simp only [Bool.or_eq_true, Bool.and_eq_true, Bool.not_eq_true', Bool.not_eq_false', Bool.or_eq_false_iff, Bool.and_eq_false_imp, decide_eq_true_eq, decide_eq_false_iff_not, Bool.not_true, Bool.not_false, beq_iff_eq, Bool.not_eq_true, Bool.not_eq_false, Bool.true_eq_false, Bool.false_eq_true, not_or, Decidable.not_not, ne_eq] at c6
        try simp only [Int.toNat_natCast, dflt_i, dflt_b, dflt_l, dflt_p, Int.toNat_zero, gt_iff_lt, ge_iff_le] at c6
        refine aw_reg _ (by kernel_rfl) rfl ?_
        iterate 6 refine stq (m := false) tabok rfl rfl (by (repeat' apply And.intro) <;> first | exact True.intro | rfl | omega | (simp only [inr, IntKind.bits, Int.toNat_natCast, dflt_i, dflt_b, dflt_l, dflt_p, Int.toNat_zero, gt_iff_lt, ge_iff_le, tnat_add, tnat_sub1, tnat_div32, tnat_mod32, ti3, ti4, ti34, ti44, ti53, ti80]; omega) | exact fun h => h | (intro hq; rw [hq]; rfl) | (simp [SV.cellsL, SV.cells] <;> omega) | (simp_all; done)) ?_
        refine st (m := true) tabok rfl rfl rfl (by (repeat' apply And.intro); all_goals first | exact True.intro | rfl | omega | (simp only [inr]; omega) | (simp only [IntKind.bits]; omega) | exact fun h => h | (intro hq; rw [hq]; rfl) | (simp only [Int.toNat_natCast, dflt_i, dflt_b, dflt_l, dflt_p, Int.toNat_zero, gt_iff_lt, ge_iff_le]; omega) | (simp only [ti3, ti4, ti34, ti44, ti53, ti80]; omega) | (simp [ti3, ti4, ti34, ti44, ti53, ti80]; omega) | (simp_all; done) | (simp [SV.cellsL, SV.cells]; done) | (simp [SV.cellsL, SV.cells]; omega) | (simp only [inr, Int.toNat_natCast, dflt_i, dflt_b, dflt_l, dflt_p, Int.toNat_zero, gt_iff_lt, ge_iff_le, tnat_add, tnat_sub1, tnat_div32, tnat_mod32]; omega)) ?_
        refine zst tabok rfl rfl rfl ?_
        refine ops_nil ?_
        refine aw_seq ?_
        refine aw_reg _ (by kernel_rfl) rfl ?_
        iterate 3 refine zst tabok rfl rfl rfl ?_
        refine st (m := true) tabok rfl rfl rfl (by (repeat' apply And.intro); all_goals first | exact True.intro | rfl | omega | (simp only [inr]; omega) | (simp only [IntKind.bits]; omega) | exact fun h => h | (intro hq; rw [hq]; rfl) | (simp only [Int.toNat_natCast, dflt_i, dflt_b, dflt_l, dflt_p, Int.toNat_zero, gt_iff_lt, ge_iff_le]; omega) | (simp only [ti3, ti4, ti34, ti44, ti53, ti80]; omega) | (simp [ti3, ti4, ti34, ti44, ti53, ti80]; omega) | (simp_all; done) | (simp [SV.cellsL, SV.cells]; done) | (simp [SV.cellsL, SV.cells]; omega) | (simp only [inr, Int.toNat_natCast, dflt_i, dflt_b, dflt_l, dflt_p, Int.toNat_zero, gt_iff_lt, ge_iff_le, tnat_add, tnat_sub1, tnat_div32, tnat_mod32]; omega)) ?_
        iterate 2 refine stq (m := false) tabok rfl rfl (by (repeat' apply And.intro) <;> first | exact True.intro | rfl | omega | (simp only [inr, IntKind.bits, Int.toNat_natCast, dflt_i, dflt_b, dflt_l, dflt_p, Int.toNat_zero, gt_iff_lt, ge_iff_le, tnat_add, tnat_sub1, tnat_div32, tnat_mod32, ti3, ti4, ti34, ti44, ti53, ti80]; omega) | exact fun h => h | (intro hq; rw [hq]; rfl) | (simp [SV.cellsL, SV.cells] <;> omega) | (simp_all; done)) ?_
        refine ops_nil ?_
        refine aw_reg _ (by kernel_rfl) rfl ?_
        iterate 3 refine stq (m := false) tabok rfl rfl (by (repeat' apply And.intro) <;> first | exact True.intro | rfl | omega | (simp only [inr, IntKind.bits, Int.toNat_natCast, dflt_i, dflt_b, dflt_l, dflt_p, Int.toNat_zero, gt_iff_lt, ge_iff_le, tnat_add, tnat_sub1, tnat_div32, tnat_mod32, ti3, ti4, ti34, ti44, ti53, ti80]; omega) | exact fun h => h | (intro hq; rw [hq]; rfl) | (simp [SV.cellsL, SV.cells] <;> omega) | (simp_all; done)) ?_
        refine ops_nil ?_
        refine aw_reg _ (by kernel_rfl) rfl ?_
        iterate 2 refine stq (m := false) tabok rfl rfl (by (repeat' apply And.intro) <;> first | exact True.intro | rfl | omega | (simp only [inr, IntKind.bits, Int.toNat_natCast, dflt_i, dflt_b, dflt_l, dflt_p, Int.toNat_zero, gt_iff_lt, ge_iff_le, tnat_add, tnat_sub1, tnat_div32, tnat_mod32, ti3, ti4, ti34, ti44, ti53, ti80]; omega) | exact fun h => h | (intro hq; rw [hq]; rfl) | (simp [SV.cellsL, SV.cells] <;> omega) | (simp_all; done)) ?_
        refine ops_nil ?_
        -- leaf L0.3t.6t
        refine Exists.intro ((i + 1, IntKind.wrap .u64 (IntKind.wrap .u64 ((lim a).getD i 0 - c) - (lim b).getD i 0) / 2 ^ 63, o ++ [IntKind.wrap .u32 (IntKind.wrap .u64 (IntKind.wrap .u64 ((lim a).getD i 0 - c) - (lim b).getD i 0))])) ⟨?_, ?_, ?_⟩
        · exact (by refine goes_to (tm := _) (st := _) [true] rfl rfl ⟨(by exact q_lst (by rw [← set_mid hi.2 (by omega), ← ga, ← gm]; rfl)), True.intro⟩ ⟨?_, ?_, (by refine sk ?_ rfl; exact q_int (by rw [← ga, ← gm]; rfl)), ?_, ?_, True.intro⟩ <;> first | exact sk rfl rfl | exact sk (q_int (by omega)) rfl | exact sk (q_bool (by simp)) rfl | exact sk (q_view rfl rfl rfl (by omega)) rfl | exact sk (q_gview rfl (by simp)) rfl | exact sk (q_nil rfl) rfl | exact sk (q_row (by simp)) rfl | exact sk_g rfl rfl rfl rfl | exact sk_v rfl rfl rfl rfl rfl | exact sk_n rfl)
        · try dsimp only
          obtain ⟨t1, t2, t3⟩ := hst _ (wrap_less _ _ _)
          exact ⟨⟨by omega, by simp; omega⟩, t2, t1, t3⟩
        · (try dsimp only); omega
      · try simp only [Bool.or_eq_true, Bool.and_eq_true, Bool.not_eq_true', Bool.not_eq_false', Bool.or_eq_false_iff, Bool.and_eq_false_imp, decide_eq_true_eq, decide_eq_false_iff_not, Bool.not_true, Bool.not_false, beq_iff_eq, Bool.not_eq_true, Bool.not_eq_false, Bool.true_eq_false, Bool.false_eq_true, not_or, Decidable.not_not, ne_eq] at c6
        try simp only [Int.toNat_natCast, dflt_i, dflt_b, dflt_l, dflt_p, Int.toNat_zero, gt_iff_lt, ge_iff_le] at c6
        refine aw_skip ?_
        refine aw_seq ?_
        refine aw_reg _ (by kernel_rfl) rfl ?_
        iterate 3 refine zst tabok rfl rfl rfl ?_
        refine st (m := true) tabok rfl rfl rfl (by (repeat' apply And.intro); all_goals first | exact True.intro | rfl | omega | (simp only [inr]; omega) | (simp only [IntKind.bits]; omega) | exact fun h => h | (intro hq; rw [hq]; rfl) | (simp only [Int.toNat_natCast, dflt_i, dflt_b, dflt_l, dflt_p, Int.toNat_zero, gt_iff_lt, ge_iff_le]; omega) | (simp only [ti3, ti4, ti34, ti44, ti53, ti80]; omega) | (simp [ti3, ti4, ti34, ti44, ti53, ti80]; omega) | (simp_all; done) | (simp [SV.cellsL, SV.cells]; done) | (simp [SV.cellsL, SV.cells]; omega) | (simp only [inr, Int.toNat_natCast, dflt_i, dflt_b, dflt_l, dflt_p, Int.toNat_zero, gt_iff_lt, ge_iff_le, tnat_add, tnat_sub1, tnat_div32, tnat_mod32]; omega)) ?_
        iterate 2 refine stq (m := false) tabok rfl rfl (by (repeat' apply And.intro) <;> first | exact True.intro | rfl | omega | (simp only [inr, IntKind.bits, Int.toNat_natCast, dflt_i, dflt_b, dflt_l, dflt_p, Int.toNat_zero, gt_iff_lt, ge_iff_le, tnat_add, tnat_sub1, tnat_div32, tnat_mod32, ti3, ti4, ti34, ti44, ti53, ti80]; omega) | exact fun h => h | (intro hq; rw [hq]; rfl) | (simp [SV.cellsL, SV.cells] <;> omega) | (simp_all; done)) ?_
        refine ops_nil ?_
        refine aw_reg _ (by kernel_rfl) rfl ?_
        iterate 3 refine stq (m := false) tabok rfl rfl (by (repeat' apply And.intro) <;> first | exact True.intro | rfl | omega | (simp only [inr, IntKind.bits, Int.toNat_natCast, dflt_i, dflt_b, dflt_l, dflt_p, Int.toNat_zero, gt_iff_lt, ge_iff_le, tnat_add, tnat_sub1, tnat_div32, tnat_mod32, ti3, ti4, ti34, ti44, ti53, ti80]; omega) | exact fun h => h | (intro hq; rw [hq]; rfl) | (simp [SV.cellsL, SV.cells] <;> omega) | (simp_all; done)) ?_
        refine ops_nil ?_
        refine aw_reg _ (by kernel_rfl) rfl ?_
        iterate 2 refine stq (m := false) tabok rfl rfl (by (repeat' apply And.intro) <;> first | exact True.intro | rfl | omega | (simp only [inr, IntKind.bits, Int.toNat_natCast, dflt_i, dflt_b, dflt_l, dflt_p, Int.toNat_zero, gt_iff_lt, ge_iff_le, tnat_add, tnat_sub1, tnat_div32, tnat_mod32, ti3, ti4, ti34, ti44, ti53, ti80]; omega) | exact fun h => h | (intro hq; rw [hq]; rfl) | (simp [SV.cellsL, SV.cells] <;> omega) | (simp_all; done)) ?_
        refine ops_nil ?_
        -- leaf L0.3t.6f
        refine Exists.intro ((i + 1, IntKind.wrap .u64 ((lim a).getD i 0 - c) / 2 ^ 63, o ++ [IntKind.wrap .u32 (IntKind.wrap .u64 ((lim a).getD i 0 - c))])) ⟨?_, ?_, ?_⟩
        · exact (by refine goes_to (tm := _) (st := _) [true] rfl rfl ⟨(by exact q_lst (by rw [← set_mid hi.2 (by omega), ← ga, ← gm]; rfl)), True.intro⟩ ⟨?_, ?_, (by refine sk ?_ rfl; exact q_int (by rw [← ga, ← gm]; rfl)), ?_, ?_, True.intro⟩ <;> first | exact sk rfl rfl | exact sk (q_int (by omega)) rfl | exact sk (q_bool (by simp)) rfl | exact sk (q_view rfl rfl rfl (by omega)) rfl | exact sk (q_gview rfl (by simp)) rfl | exact sk (q_nil rfl) rfl | exact sk (q_row (by simp)) rfl | exact sk_g rfl rfl rfl rfl | exact sk_v rfl rfl rfl rfl rfl | exact sk_n rfl)
        · try dsimp only
          have e0 : (lim b).getD i 0 = 0 := getD_past (by omega)
          obtain ⟨t1, t2, t3⟩ := hst (IntKind.wrap .u64 ((lim a).getD i 0 - c)) (by rw [e0, IntKind.wrap_u64]; omega)
          exact ⟨⟨by omega, by simp; omega⟩, t2, t1, t3⟩
        · (try dsimp only); omega
    · try simp only [Bool.or_eq_true, Bool.and_eq_true, Bool.not_eq_true', Bool.not_eq_false', Bool.or_eq_false_iff, Bool.and_eq_false_imp, decide_eq_true_eq, decide_eq_false_iff_not, Bool.not_true, Bool.not_false, beq_iff_eq, Bool.not_eq_true, Bool.not_eq_false, Bool.true_eq_false, Bool.false_eq_true, not_or, Decidable.not_not, ne_eq] at c3
      try simp only [Int.toNat_natCast, dflt_i, dflt_b, dflt_l, dflt_p, Int.toNat_zero, gt_iff_lt, ge_iff_le] at c3
      refine aw_exit ?_
      refine aw_seq ?_
      refine aw_reg _ (by kernel_rfl) rfl ?_
      refine zst tabok rfl rfl rfl ?_
      refine sca [0] (trim_sc g n (o ++ l.drop i) (by omega) (by omega)) rfl rfl (by kernel_rfl) rfl (by kernel_rfl) rfl rfl rfl rfl rfl rfl rfl rfl rfl rfl ⟨(by first | rfl | exact q_obj rfl), True.intro⟩ (.cons (by first | exact argw_same | exact argw_nil | exact argw_tt | exact argw_ff | exact argw_eq rfl) .nil) ?_
      refine zst tabok rfl rfl rfl ?_
      refine ops_nil ?_
      refine aw_ret ?_
      -- leaf ret.3f
      have ei : i = n := by omega
      subst ei
      have eo := less_end rfl hb ho hi.2 hna.symm hc hw
      have hle : (lim (a - b)).length ≤ i := by have := lim_len_le (Nat.sub_le a b); omega
      have htk : (o ++ l.drop i).take i = o := by rw [List.take_append_of_le_length (by omega), List.take_of_length_le (by omega)]
      have htn := tn_of (l := o ++ l.drop i) (n := i) (v := a - b) (ho.app (hl.drop i)) (by omega) (by rw [htk, eo]; exact padL_val hle)
      exact ret_s [(4, .view 0 g 0 (lim (a - b)).length)] (goes_to (tm := _) (st := _) [true] rfl rfl ⟨(by exact q_lst (by rw [eo])), True.intro⟩ ⟨(by refine sk ?_ rfl; exact q_view rfl rfl rfl htn.1), True.intro⟩) rfl
end Go.Sim
end
section
namespace Go.Sim
open Go Go.Proofs
set_option maxRecDepth 10000
set_option autoImplicit false
set_option linter.unusedSimpArgs false
set_option linter.unusedVariables false
theorem small_at (a : Nat) (x : Int) (d : Nat) (hx : x = d) (ha : Sm a) (hd : 0 < d ∧ d < 4294967296) : CS Try.prog 82 [.row TU32 (lim a), .int .u32 x] (.tup [.row TU32 (lim (a / d)), .int .u32 ((a % d : Nat) : Int)]) := by
  subst hx
  exact small_ok a d ha hd
theorem divmod_ok (a b : Nat) (ha : Sm a) (hb : Sm b) (h0 : 0 < b) : CS Try.prog 80 [.row TU32 (lim a), .row TU32 (lim b)] (.tup [.row TU32 (lim (a / b)), .row TU32 (lim (a % b)), .tt]) := by
  have ha' : (lim a).length ≤ 1000 := ha
  have hb' : (lim b).length ≤ 1000 := hb
  have hbn : (lim b).length ≠ 0 := fun e => by have := lim_nil.1 (List.eq_nil_of_length_eq_zero e); omega
  have hbl := bl_len a
  refine fn_c [4, 5, 6] Try.func80 Try.ntmps80 rfl rfl rfl rfl ?_
  refine aw_seq ?_
  refine aw_reg _ (by kernel_rfl) rfl ?_
  iterate 3 refine zst tabok rfl rfl rfl ?_
  refine ops_nil ?_
  refine aw_seq ?_
  refine aw_reg _ (by kernel_rfl) rfl ?_
  refine zst tabok rfl rfl rfl ?_
  refine sc (trim_ok a ha) rfl rfl (by kernel_rfl) rfl (by kernel_rfl) (.cons (by first | exact argw_same | exact argw_nil | exact argw_tt | exact argw_ff | exact argw_eq rfl) .nil) ?_
  refine zst tabok rfl rfl rfl ?_
  refine sc (trim_ok b hb) rfl rfl (by kernel_rfl) rfl (by kernel_rfl) (.cons (by first | exact argw_same | exact argw_nil | exact argw_tt | exact argw_ff | exact argw_eq rfl) .nil) ?_
  iterate 2 refine zst tabok rfl rfl rfl ?_
  refine ops_nil ?_
  refine aw_seq ?_
  refine aw_block ?_
  refine aw_seq ?_
  refine aw_reg _ (by kernel_rfl) rfl ?_
  iterate 4 refine zst tabok rfl rfl rfl ?_
  refine ops_nil ?_
  refine aw_if rfl (fun c2 => ?_) (fun c2 => ?_)
  · try simp only [Bool.or_eq_true, Bool.and_eq_true, Bool.not_eq_true', Bool.not_eq_false', Bool.or_eq_false_iff, Bool.and_eq_false_imp, decide_eq_true_eq, decide_eq_false_iff_not, Bool.not_true, Bool.not_false, beq_iff_eq, Bool.not_eq_true, Bool.not_eq_false, Bool.true_eq_false, Bool.false_eq_true, not_or, Decidable.not_not, ne_eq] at c2
    try simp only [Int.toNat_natCast, dflt_i, dflt_b, dflt_l, dflt_p, Int.toNat_zero, gt_iff_lt, ge_iff_le] at c2
    refine aw_seq ?_
    refine aw_reg _ (by kernel_rfl) rfl ?_
    iterate 3 refine zst tabok rfl rfl rfl ?_
    refine ops_nil ?_
    refine aw_ret ?_
    -- leaf ret.2t
    refine ret_c ?_
    exfalso
    omega
  · try simp only [Bool.or_eq_true, Bool.and_eq_true, Bool.not_eq_true', Bool.not_eq_false', Bool.or_eq_false_iff, Bool.and_eq_false_imp, decide_eq_true_eq, decide_eq_false_iff_not, Bool.not_true, Bool.not_false, beq_iff_eq, Bool.not_eq_true, Bool.not_eq_false, Bool.true_eq_false, Bool.false_eq_true, not_or, Decidable.not_not, ne_eq] at c2
    try simp only [Int.toNat_natCast, dflt_i, dflt_b, dflt_l, dflt_p, Int.toNat_zero, gt_iff_lt, ge_iff_le] at c2
    refine aw_seq ?_
    refine aw_reg _ (by kernel_rfl) rfl ?_
    iterate 2 refine zst tabok rfl rfl rfl ?_
    refine sc (cmp_ok a b ha hb) rfl rfl (by kernel_rfl) rfl (by kernel_rfl) (.cons (by first | exact argw_same | exact argw_nil | exact argw_tt | exact argw_ff | exact argw_eq rfl) (.cons (by first | exact argw_same | exact argw_nil | exact argw_tt | exact argw_ff | exact argw_eq rfl) .nil)) ?_
    iterate 2 refine zst tabok rfl rfl rfl ?_
    refine ops_nil ?_
    refine aw_if rfl (fun c4 => ?_) (fun c4 => ?_)
    · try simp only [Bool.or_eq_true, Bool.and_eq_true, Bool.not_eq_true', Bool.not_eq_false', Bool.or_eq_false_iff, Bool.and_eq_false_imp, decide_eq_true_eq, decide_eq_false_iff_not, Bool.not_true, Bool.not_false, beq_iff_eq, Bool.not_eq_true, Bool.not_eq_false, Bool.true_eq_false, Bool.false_eq_true, not_or, Decidable.not_not, ne_eq] at c4
      try simp only [Int.toNat_natCast, dflt_i, dflt_b, dflt_l, dflt_p, Int.toNat_zero, gt_iff_lt, ge_iff_le] at c4
      refine aw_seq ?_
      refine aw_reg _ (by kernel_rfl) rfl ?_
      refine zst tabok rfl rfl rfl ?_
      refine sc (norm_ok a ha) rfl rfl (by kernel_rfl) rfl (by kernel_rfl) (.cons (by first | exact argw_same | exact argw_nil | exact argw_tt | exact argw_ff | exact argw_eq rfl) .nil) ?_
      iterate 3 refine zst tabok rfl rfl rfl ?_
      refine ops_nil ?_
      refine aw_ret ?_
      -- leaf ret.2f.4t
      refine ret_c ?_
      have hlt := cmp_neg.1 c4
      exact fs_tup (.cons (fs_nil (by rw [Nat.div_eq_of_lt hlt, lim_zero])) (.cons (fs_row (by rw [Nat.mod_eq_of_lt hlt])) (.cons (fs rfl) .nil)))
    · try simp only [Bool.or_eq_true, Bool.and_eq_true, Bool.not_eq_true', Bool.not_eq_false', Bool.or_eq_false_iff, Bool.and_eq_false_imp, decide_eq_true_eq, decide_eq_false_iff_not, Bool.not_true, Bool.not_false, beq_iff_eq, Bool.not_eq_true, Bool.not_eq_false, Bool.true_eq_false, Bool.false_eq_true, not_or, Decidable.not_not, ne_eq] at c4
      try simp only [Int.toNat_natCast, dflt_i, dflt_b, dflt_l, dflt_p, Int.toNat_zero, gt_iff_lt, ge_iff_le] at c4
      have hge : b ≤ a := by have h : ¬ a < b := fun h => c4 (cmp_neg.2 h); omega
      refine aw_seq ?_
      refine aw_reg _ (by kernel_rfl) rfl ?_
      iterate 4 refine zst tabok rfl rfl rfl ?_
      refine ops_nil ?_
      refine aw_if rfl (fun c6 => ?_) (fun c6 => ?_)
      · try simp only [Bool.or_eq_true, Bool.and_eq_true, Bool.not_eq_true', Bool.not_eq_false', Bool.or_eq_false_iff, Bool.and_eq_false_imp, decide_eq_true_eq, decide_eq_false_iff_not, Bool.not_true, Bool.not_false, beq_iff_eq, Bool.not_eq_true, Bool.not_eq_false, Bool.true_eq_false, Bool.false_eq_true, not_or, Decidable.not_not, ne_eq] at c6
        try simp only [Int.toNat_natCast, dflt_i, dflt_b, dflt_l, dflt_p, Int.toNat_zero, gt_iff_lt, ge_iff_le] at c6
        have hmb : a % b < 4294967296 := by have := (one_limb (b := b) (by omega)).2; have := Nat.mod_lt a h0; omega
        refine aw_seq ?_
        refine aw_reg _ (by kernel_rfl) rfl ?_
        iterate 4 refine stq (m := false) tabok rfl rfl (by (repeat' apply And.intro) <;> first | exact True.intro | rfl | omega | (simp only [inr, IntKind.bits, Int.toNat_natCast, dflt_i, dflt_b, dflt_l, dflt_p, Int.toNat_zero, gt_iff_lt, ge_iff_le, tnat_add, tnat_sub1, tnat_div32, tnat_mod32, ti3, ti4, ti34, ti44, ti53, ti80]; omega) | exact fun h => h | (intro hq; rw [hq]; rfl) | (simp [SV.cellsL, SV.cells] <;> omega) | (simp_all; done)) ?_
        refine sc (small_at a ((lim b).getD 0 0) b (one_limb (by omega)).1 ha (one_limb (by omega)).2) rfl rfl (by kernel_rfl) rfl (by kernel_rfl) (.cons (by first | exact argw_same | exact argw_nil | exact argw_tt | exact argw_ff | exact argw_eq rfl) (.cons (by first | exact argw_same | exact argw_nil | exact argw_tt | exact argw_ff | exact argw_eq rfl) .nil)) ?_
        iterate 5 refine zst tabok rfl rfl rfl ?_
        refine ops_nil ?_
        refine aw_seq ?_
        refine aw_reg _ (by kernel_rfl) rfl ?_
        iterate 3 refine stq (m := false) tabok rfl rfl (by (repeat' apply And.intro) <;> first | exact True.intro | rfl | omega | (simp only [inr, IntKind.bits, Int.toNat_natCast, dflt_i, dflt_b, dflt_l, dflt_p, Int.toNat_zero, gt_iff_lt, ge_iff_le, tnat_add, tnat_sub1, tnat_div32, tnat_mod32, ti3, ti4, ti34, ti44, ti53, ti80]; omega) | exact fun h => h | (intro hq; rw [hq]; rfl) | (simp [SV.cellsL, SV.cells] <;> omega) | (simp_all; done)) ?_
        refine sc (of_ok (a % b) (by omega)) rfl rfl (by kernel_rfl) rfl (by kernel_rfl) (.cons (by first | exact argw_same | exact argw_nil | exact argw_tt | exact argw_ff | exact argw_eq rfl) .nil) ?_
        iterate 3 refine zst tabok rfl rfl rfl ?_
        refine ops_nil ?_
        refine aw_ret ?_
        -- leaf ret.2f.4f.6t
        refine ret_c ?_
        exact fs_tup (.cons (by first | exact fs rfl | exact fs_tt (by simp_all) | exact fs_ff (by simp_all) | exact fs_bool (by simp_all) | exact fs_int (by simp_all) | exact fs_nil (by simp_all)) (.cons (by first | exact fs rfl | exact fs_tt (by simp_all) | exact fs_ff (by simp_all) | exact fs_bool (by simp_all) | exact fs_int (by simp_all) | exact fs_nil (by simp_all)) (.cons (by first | exact fs rfl | exact fs_tt (by simp_all) | exact fs_ff (by simp_all) | exact fs_bool (by simp_all) | exact fs_int (by simp_all) | exact fs_nil (by simp_all)) .nil)))
      · try simp only [Bool.or_eq_true, Bool.and_eq_true, Bool.not_eq_true', Bool.not_eq_false', Bool.or_eq_false_iff, Bool.and_eq_false_imp, decide_eq_true_eq, decide_eq_false_iff_not, Bool.not_true, Bool.not_false, beq_iff_eq, Bool.not_eq_true, Bool.not_eq_false, Bool.true_eq_false, Bool.false_eq_true, not_or, Decidable.not_not, ne_eq] at c6
        try simp only [Int.toNat_natCast, dflt_i, dflt_b, dflt_l, dflt_p, Int.toNat_zero, gt_iff_lt, ge_iff_le] at c6
        refine aw_skip ?_
        refine aw_seq ?_
        refine aw_reg _ (by kernel_rfl) rfl ?_
        iterate 4 refine stq (m := false) tabok rfl rfl (by (repeat' apply And.intro) <;> first | exact True.intro | rfl | omega | (simp only [inr, IntKind.bits, Int.toNat_natCast, dflt_i, dflt_b, dflt_l, dflt_p, Int.toNat_zero, gt_iff_lt, ge_iff_le, tnat_add, tnat_sub1, tnat_div32, tnat_mod32, ti3, ti4, ti34, ti44, ti53, ti80]; omega) | exact fun h => h | (intro hq; rw [hq]; rfl) | (simp [SV.cellsL, SV.cells] <;> omega) | (simp_all; done)) ?_
        refine ops_nil ?_
        refine aw_seq ?_
        refine aw_reg _ (by kernel_rfl) rfl ?_
        iterate 5 refine stq (m := false) tabok rfl rfl (by (repeat' apply And.intro) <;> first | exact True.intro | rfl | omega | (simp only [inr, IntKind.bits, Int.toNat_natCast, dflt_i, dflt_b, dflt_l, dflt_p, Int.toNat_zero, gt_iff_lt, ge_iff_le, tnat_add, tnat_sub1, tnat_div32, tnat_mod32, ti3, ti4, ti34, ti44, ti53, ti80]; omega) | exact fun h => h | (intro hq; rw [hq]; rfl) | (simp [SV.cellsL, SV.cells] <;> omega) | (simp_all; done)) ?_
        refine ops_nil ?_
        refine aw_seq ?_
        refine aw_seq ?_
        refine aw_reg _ (by kernel_rfl) rfl ?_
        refine zst tabok rfl rfl rfl ?_
        refine sc (size_ok a ha) rfl rfl (by kernel_rfl) rfl (by kernel_rfl) (.cons (by first | exact argw_same | exact argw_nil | exact argw_tt | exact argw_ff | exact argw_eq rfl) .nil) ?_
        iterate 2 refine stq (m := false) tabok rfl rfl (by (repeat' apply And.intro) <;> first | exact True.intro | rfl | omega | (simp only [inr, IntKind.bits, Int.toNat_natCast, dflt_i, dflt_b, dflt_l, dflt_p, Int.toNat_zero, gt_iff_lt, ge_iff_le, tnat_add, tnat_sub1, tnat_div32, tnat_mod32, ti3, ti4, ti34, ti44, ti53, ti80]; omega) | exact fun h => h | (intro hq; rw [hq]; rfl) | (simp [SV.cellsL, SV.cells] <;> omega) | (simp_all; done)) ?_
        refine ops_nil ?_
        refine aw_block ?_
        refine aw_loop (X := (Nat) × (List Int) × (Nat) × (List Int)) (fun (x : (Nat) × (List Int) × (Nat) × (List Int)) => match x with | (K, q, g, r) => outT (look [(0, .row TU32 (lim a)), (1, .row TU32 (lim b)), (9, .view 0 0 0 (lim a).length), (10, .view 1 g 0 (lim (a / 2 ^ K % b)).length), (11, .int .i64 ((K : Int) - 1))])) (fun (x : (Nat) × (List Int) × (Nat) × (List Int)) => match x with | (K, q, g, r) => outS [.obj 0 80 1 [.lst TU32 q], .obj g 80 1 [.lst TU32 r]]) (fun (x : (Nat) × (List Int) × (Nat) × (List Int)) => match x with | (K, q, g, r) => (K ≤ bl a) ∧ (q.length = (lim a).length) ∧ (Lim q) ∧ (val q = ((a / 2 ^ K / b * 2 ^ K : Nat) : Int)) ∧ (Lim r) ∧ ((lim (a / 2 ^ K % b)).length ≤ r.length ∧ r.length ≤ 2000) ∧ (r.take (lim (a / 2 ^ K % b)).length = lim (a / 2 ^ K % b))) (fun (x : (Nat) × (List Int) × (Nat) × (List Int)) => match x with | (K, q, g, r) => K) ((bl a, List.replicate (lim a).length 0, 0, [])) ?_ ?_ ?_
        -- leaf L0:entry.2f.4f.6f
        · exact (by refine goes_to (tm := _) (st := _) [true, true] rfl rfl ⟨?_, ?_, True.intro⟩ ⟨?_, ?_, ?_, (by refine sk ?_ rfl; exact q_view rfl rfl rfl (by rw [Nat.div_eq_of_lt (bl_lt a), Nat.zero_mod, lim_zero]; rfl)), ?_, True.intro⟩ <;> first | rfl | exact q_lst (by simp) | exact q_grow (by simp) | exact sk rfl rfl | exact sk (q_int (by omega)) rfl | exact sk (q_bool (by simp)) rfl | exact sk (q_view rfl rfl rfl (by omega)) rfl | exact sk (q_gview rfl (by simp)) rfl | exact sk (q_nil rfl) rfl | exact sk (q_row (by simp)) rfl | exact sk_g rfl rfl rfl rfl | exact sk_v rfl rfl rfl rfl rfl | exact sk_n rfl)
        · have e0 : a / 2 ^ bl a = 0 := Nat.div_eq_of_lt (bl_lt a)
          exact ⟨by omega, by simp, .zeros _, by rw [e0, val_zeros]; simp, .nil, by rw [e0, Nat.zero_mod, lim_zero]; simp, by rw [e0, Nat.zero_mod, lim_zero]; rfl⟩
        · skip
          rintro ⟨K, q, g, r⟩ ⟨hK, hql, hq, hqv, hr, hrl, hrv⟩
          change awpB _ _ _ _ _ (outT (look [(0, .row TU32 (lim a)), (1, .row TU32 (lim b)), (9, .view 0 0 0 (lim a).length), (10, .view 1 g 0 (lim (a / 2 ^ K % b)).length), (11, .int .i64 ((K : Int) - 1))])) (outS [.obj 0 80 1 [.lst TU32 q], .obj g 80 1 [.lst TU32 r]])
          refine aw_seq ?_
          refine aw_seq ?_
          refine aw_reg _ (by kernel_rfl) rfl ?_
          iterate 2 refine zst tabok rfl rfl rfl ?_
          refine ops_nil ?_
          refine aw_if rfl (fun c12 => ?_) (fun c12 => ?_)
          · try simp only [Bool.or_eq_true, Bool.and_eq_true, Bool.not_eq_true', Bool.not_eq_false', Bool.or_eq_false_iff, Bool.and_eq_false_imp, decide_eq_true_eq, decide_eq_false_iff_not, Bool.not_true, Bool.not_false, beq_iff_eq, Bool.not_eq_true, Bool.not_eq_false, Bool.true_eq_false, Bool.false_eq_true, not_or, Decidable.not_not, ne_eq] at c12
            try simp only [Int.toNat_natCast, dflt_i, dflt_b, dflt_l, dflt_p, Int.toNat_zero, gt_iff_lt, ge_iff_le] at c12
            obtain ⟨j, rfl⟩ : ∃ j, K = j + 1 := ⟨K - 1, by omega⟩
            have gx := (lim_Lim a).get (i := j / 32)
            have hml : (lim (a / 2 ^ (j + 1) % b)).length ≤ 1000 := by have := lim_len_le (Nat.le_of_lt (Nat.mod_lt (a / 2 ^ (j + 1)) h0)); omega
            have hj32 : j / 32 < (lim a).length := by omega
            have hdr := div_rng (j % 32) gx
            refine aw_skip ?_
            refine aw_seq ?_
            refine aw_block ?_
            refine aw_seq ?_
            refine awB_goes ((by refine goes_to (tm := [(0, .row TU32 (lim a)), (1, .row TU32 (lim b)), (9, .view 0 0 0 (lim a).length), (10, .view 1 g 0 (lim (a / 2 ^ (j + 1) % b)).length), (11, .int .i64 (j : Int))]) (st := [.obj 0 80 1 [.lst TU32 q], .obj g 80 1 [.lst TU32 r]]) [true, true] rfl rfl ⟨?_, ?_, True.intro⟩ ⟨?_, ?_, ?_, ?_, ?_, True.intro⟩ <;> first | rfl | exact q_lst (by simp) | exact q_grow (by simp) | exact sk rfl rfl | exact sk (q_int (by omega)) rfl | exact sk (q_bool (by simp)) rfl | exact sk (q_view rfl rfl rfl (by omega)) rfl | exact sk (q_gview rfl (by simp)) rfl | exact sk (q_nil rfl) rfl | exact sk (q_row (by simp)) rfl | exact sk_g rfl rfl rfl rfl | exact sk_v rfl rfl rfl rfl rfl | exact sk_n rfl)) ?_
            change awpB _ _ _ _ _ (outT (look [(0, .row TU32 (lim a)), (1, .row TU32 (lim b)), (9, .view 0 0 0 (lim a).length), (10, .view 1 g 0 (lim (a / 2 ^ (j + 1) % b)).length), (11, .int .i64 (j : Int))])) (outS [.obj 0 80 1 [.lst TU32 q], .obj g 80 1 [.lst TU32 r]])
            refine aw_reg _ (by kernel_rfl) rfl ?_
            iterate 10 refine stq (m := false) tabok rfl rfl (by (repeat' apply And.intro) <;> first | exact True.intro | rfl | omega | (simp only [inr, IntKind.bits, Int.toNat_natCast, dflt_i, dflt_b, dflt_l, dflt_p, Int.toNat_zero, gt_iff_lt, ge_iff_le, tnat_add, tnat_sub1, tnat_div32, tnat_mod32, ti3, ti4, ti34, ti44, ti53, ti80]; omega) | exact fun h => h | (intro hq; rw [hq]; rfl) | (simp [SV.cellsL, SV.cells] <;> omega) | (simp_all; done)) ?_
            refine ops_nil ?_
            refine aw_seq ?_
            refine aw_seq ?_
            refine awB_goes ((by refine goes_to (tm := [(0, .row TU32 (lim a)), (1, .row TU32 (lim b)), (9, .view 0 0 0 (lim a).length), (10, .view 1 g 0 (lim (a / 2 ^ (j + 1) % b)).length), (11, .int .i64 (j : Int)), (12, .int .u32 ((a / 2 ^ j % 2 : Nat) : Int))]) (st := [.obj 0 80 1 [.lst TU32 q], .obj g 80 1 [.lst TU32 r]]) [true, true] rfl rfl ⟨?_, ?_, True.intro⟩ ⟨?_, ?_, ?_, ?_, ?_, (by refine sk ?_ rfl; exact q_int ((cg2 (fun u v => bitsI .and .u32 ((lim a).getD u 0 / 2 ^ v) 1) (tnat_div32 j) (tnat_mod32 j)).trans ((and1b hdr).trans (bit_at j (lim_Lim a) (val_lim a))))), True.intro⟩ <;> first | rfl | exact q_lst (by simp) | exact q_grow (by simp) | exact sk rfl rfl | exact sk (q_int (by omega)) rfl | exact sk (q_bool (by simp)) rfl | exact sk (q_view rfl rfl rfl (by omega)) rfl | exact sk (q_gview rfl (by simp)) rfl | exact sk (q_nil rfl) rfl | exact sk (q_row (by simp)) rfl | exact sk_g rfl rfl rfl rfl | exact sk_v rfl rfl rfl rfl rfl | exact sk_n rfl)) ?_
            change awpB _ _ _ _ _ (outT (look [(0, .row TU32 (lim a)), (1, .row TU32 (lim b)), (9, .view 0 0 0 (lim a).length), (10, .view 1 g 0 (lim (a / 2 ^ (j + 1) % b)).length), (11, .int .i64 (j : Int)), (12, .int .u32 ((a / 2 ^ j % 2 : Nat) : Int))])) (outS [.obj 0 80 1 [.lst TU32 q], .obj g 80 1 [.lst TU32 r]])
            refine aw_reg _ (by kernel_rfl) rfl ?_
            iterate 3 refine zst tabok rfl rfl rfl ?_
            refine ops_nil ?_
            refine aw_block ?_
            refine aw_loop (X := (Nat) × (Int) × (List Int)) (fun (x : (Nat) × (Int) × (List Int)) => match x with | (k, c, r1) => outT (look [(0, .row TU32 (lim a)), (1, .row TU32 (lim b)), (9, .view 0 0 0 (lim a).length), (10, .view 1 g 0 (lim (a / 2 ^ (j + 1) % b)).length), (11, .int .i64 (j : Int)), (12, .int .u32 c), (70, .int .i64 (lim (a / 2 ^ (j + 1) % b)).length), (71, .int .i64 k)])) (fun (x : (Nat) × (Int) × (List Int)) => match x with | (k, c, r1) => outS [.obj 0 80 1 [.lst TU32 q], .obj g 80 1 [.lst TU32 r1]]) (fun (x : (Nat) × (Int) × (List Int)) => match x with | (k, c, r1) => (k ≤ (lim (a / 2 ^ (j + 1) % b)).length) ∧ (Lim r1) ∧ (r1.length = r.length) ∧ (r1.drop k = r.drop k) ∧ (0 ≤ c ∧ c ≤ 1) ∧ (val (r1.take k) + pw k * (c + 2 * val ((r.take (lim (a / 2 ^ (j + 1) % b)).length).drop k)) = ((2 * (a / 2 ^ (j + 1) % b) + a / 2 ^ j % 2 : Nat) : Int))) (fun (x : (Nat) × (Int) × (List Int)) => match x with | (k, c, r1) => (lim (a / 2 ^ (j + 1) % b)).length - k) ((0, ((a / 2 ^ j % 2 : Nat) : Int), r)) ?_ ?_ ?_
            -- leaf L1:entry.12t
            · exact (by refine goes_to (tm := _) (st := _) [true, true] rfl rfl ⟨?_, ?_, True.intro⟩ ⟨?_, ?_, ?_, ?_, ?_, ?_, ?_, ?_, True.intro⟩ <;> first | rfl | exact q_lst (by simp) | exact q_grow (by simp) | exact sk rfl rfl | exact sk (q_int (by omega)) rfl | exact sk (q_bool (by simp)) rfl | exact sk (q_view rfl rfl rfl (by omega)) rfl | exact sk (q_gview rfl (by simp)) rfl | exact sk (q_nil rfl) rfl | exact sk (q_row (by simp)) rfl | exact sk_g rfl rfl rfl rfl | exact sk_v rfl rfl rfl rfl rfl | exact sk_n rfl)
            · exact ⟨by omega, hr, rfl, rfl, by omega, by rw [hrv]; simp [pw_zero, val, val_lim]; omega⟩
            · skip
              rintro ⟨k, c, r1⟩ ⟨hk, h1, hl1, hd, hc, hv1⟩
              change awpB _ _ _ _ _ (outT (look [(0, .row TU32 (lim a)), (1, .row TU32 (lim b)), (9, .view 0 0 0 (lim a).length), (10, .view 1 g 0 (lim (a / 2 ^ (j + 1) % b)).length), (11, .int .i64 (j : Int)), (12, .int .u32 c), (70, .int .i64 (lim (a / 2 ^ (j + 1) % b)).length), (71, .int .i64 k)])) (outS [.obj 0 80 1 [.lst TU32 q], .obj g 80 1 [.lst TU32 r1]])
              have gz := h1.get (i := k)
              refine aw_seq ?_
              refine aw_reg _ (by kernel_rfl) rfl ?_
              refine zst tabok rfl rfl rfl ?_
              refine ops_nil ?_
              refine aw_seq ?_
              refine aw_if rfl (fun c16 => ?_) (fun c16 => ?_)
              · try simp only [Bool.or_eq_true, Bool.and_eq_true, Bool.not_eq_true', Bool.not_eq_false', Bool.or_eq_false_iff, Bool.and_eq_false_imp, decide_eq_true_eq, decide_eq_false_iff_not, Bool.not_true, Bool.not_false, beq_iff_eq, Bool.not_eq_true, Bool.not_eq_false, Bool.true_eq_false, Bool.false_eq_true, not_or, Decidable.not_not, ne_eq] at c16
                try simp only [Int.toNat_natCast, dflt_i, dflt_b, dflt_l, dflt_p, Int.toNat_zero, gt_iff_lt, ge_iff_le] at c16
                refine aw_skip ?_
                refine aw_seq ?_
                refine aw_block ?_
                refine aw_seq ?_
                refine aw_reg _ (by kernel_rfl) rfl ?_
                iterate 2 refine zst tabok rfl rfl rfl ?_
                refine ops_nil ?_
                refine aw_seq ?_
                refine aw_reg _ (by kernel_rfl) rfl ?_
                iterate 6 refine stq (m := false) tabok rfl rfl (by (repeat' apply And.intro) <;> first | exact True.intro | rfl | omega | (simp only [inr, IntKind.bits, Int.toNat_natCast, dflt_i, dflt_b, dflt_l, dflt_p, Int.toNat_zero, gt_iff_lt, ge_iff_le, tnat_add, tnat_sub1, tnat_div32, tnat_mod32, ti3, ti4, ti34, ti44, ti53, ti80]; omega) | exact fun h => h | (intro hq; rw [hq]; rfl) | (simp [SV.cellsL, SV.cells] <;> omega) | (simp_all; done)) ?_
                refine ops_nil ?_
                refine aw_seq ?_
                refine aw_reg _ (by kernel_rfl) rfl ?_
                iterate 6 refine stq (m := false) tabok rfl rfl (by (repeat' apply And.intro) <;> first | exact True.intro | rfl | omega | (simp only [inr, IntKind.bits, Int.toNat_natCast, dflt_i, dflt_b, dflt_l, dflt_p, Int.toNat_zero, gt_iff_lt, ge_iff_le, tnat_add, tnat_sub1, tnat_div32, tnat_mod32, ti3, ti4, ti34, ti44, ti53, ti80]; omega) | exact fun h => h | (intro hq; rw [hq]; rfl) | (simp [SV.cellsL, SV.cells] <;> omega) | (simp_all; done)) ?_
                refine st (m := true) tabok rfl rfl rfl (by (repeat' apply And.intro); all_goals first | exact True.intro | rfl | omega | (simp only [inr]; omega) | (simp only [IntKind.bits]; omega) | exact fun h => h | (intro hq; rw [hq]; rfl) | (simp only [Int.toNat_natCast, dflt_i, dflt_b, dflt_l, dflt_p, Int.toNat_zero, gt_iff_lt, ge_iff_le]; omega) | (simp only [ti3, ti4, ti34, ti44, ti53, ti80]; omega) | (simp [ti3, ti4, ti34, ti44, ti53, ti80]; omega) | (simp_all; done) | (simp [SV.cellsL, SV.cells]; done) | (simp [SV.cellsL, SV.cells]; omega) | (simp only [inr, Int.toNat_natCast, dflt_i, dflt_b, dflt_l, dflt_p, Int.toNat_zero, gt_iff_lt, ge_iff_le, tnat_add, tnat_sub1, tnat_div32, tnat_mod32]; omega)) ?_
                iterate 4 refine stq (m := false) tabok rfl rfl (by (repeat' apply And.intro) <;> first | exact True.intro | rfl | omega | (simp only [inr, IntKind.bits, Int.toNat_natCast, dflt_i, dflt_b, dflt_l, dflt_p, Int.toNat_zero, gt_iff_lt, ge_iff_le, tnat_add, tnat_sub1, tnat_div32, tnat_mod32, ti3, ti4, ti34, ti44, ti53, ti80]; omega) | exact fun h => h | (intro hq; rw [hq]; rfl) | (simp [SV.cellsL, SV.cells] <;> omega) | (simp_all; done)) ?_
                refine ops_nil ?_
                refine aw_reg _ (by kernel_rfl) rfl ?_
                iterate 2 refine zst tabok rfl rfl rfl ?_
                refine ops_nil ?_
                refine aw_reg _ (by kernel_rfl) rfl ?_
                iterate 2 refine stq (m := false) tabok rfl rfl (by (repeat' apply And.intro) <;> first | exact True.intro | rfl | omega | (simp only [inr, IntKind.bits, Int.toNat_natCast, dflt_i, dflt_b, dflt_l, dflt_p, Int.toNat_zero, gt_iff_lt, ge_iff_le, tnat_add, tnat_sub1, tnat_div32, tnat_mod32, ti3, ti4, ti34, ti44, ti53, ti80]; omega) | exact fun h => h | (intro hq; rw [hq]; rfl) | (simp [SV.cellsL, SV.cells] <;> omega) | (simp_all; done)) ?_
                refine ops_nil ?_
                -- leaf L1.16t
                refine Exists.intro ((k + 1, r1.getD k 0 / 2 ^ 31, r1.set k ((2 * r1.getD k 0 + c) % 4294967296))) ⟨?_, ?_, ?_⟩
                · exact (by refine goes_to (tm := _) (st := _) [true, true] rfl rfl ⟨?_, (by exact q_lst (congrArg (r1.set k) (or1 gz hc))), True.intro⟩ ⟨?_, ?_, ?_, ?_, ?_, ?_, ?_, ?_, True.intro⟩ <;> first | rfl | exact q_lst (by simp) | exact q_grow (by simp) | exact sk rfl rfl | exact sk (q_int (by omega)) rfl | exact sk (q_bool (by simp)) rfl | exact sk (q_view rfl rfl rfl (by omega)) rfl | exact sk (q_gview rfl (by simp)) rfl | exact sk (q_nil rfl) rfl | exact sk (q_row (by simp)) rfl | exact sk_g rfl rfl rfl rfl | exact sk_v rfl rfl rfl rfl rfl | exact sk_n rfl)
                · try dsimp only
                  obtain ⟨t1, t2, t3, t4, t5⟩ := shl_step (m := (lim (a / 2 ^ (j + 1) % b)).length) hr h1 (by omega) hrl.1 hl1 hd hc hv1
                  rw [← t5] at t1 t2 t3 t4
                  exact ⟨by omega, t1, by simp; omega, t2, t3, t4⟩
                · (try dsimp only); omega
              · try simp only [Bool.or_eq_true, Bool.and_eq_true, Bool.not_eq_true', Bool.not_eq_false', Bool.or_eq_false_iff, Bool.and_eq_false_imp, decide_eq_true_eq, decide_eq_false_iff_not, Bool.not_true, Bool.not_false, beq_iff_eq, Bool.not_eq_true, Bool.not_eq_false, Bool.true_eq_false, Bool.false_eq_true, not_or, Decidable.not_not, ne_eq] at c16
                try simp only [Int.toNat_natCast, dflt_i, dflt_b, dflt_l, dflt_p, Int.toNat_zero, gt_iff_lt, ge_iff_le] at c16
                have ek : k = (lim (a / 2 ^ (j + 1) % b)).length := by omega
                have hse := shl_end h1 (by omega) hrv rfl hc (by rw [← ek] at hv1 ⊢; exact hv1)
                have hds := div_step (s := a / 2 ^ (j + 1)) (b := b) (bit := a / 2 ^ j % 2) h0 (by omega)
                have hsr := shr_succ a j
                obtain ⟨v, hx⟩ : ∃ v, v = 2 * (a / 2 ^ (j + 1) % b) + a / 2 ^ j % 2 := ⟨_, rfl⟩
                rw [← hx] at hse hds
                have hsb := setbit (j := j) (Q := a / 2 ^ (j + 1) / b) hq (by omega) hqv
                have hmv : a / 2 ^ j % b < b := Nat.mod_lt _ h0
                refine aw_exit ?_
                refine aw_seq ?_
                refine aw_seq ?_
                refine aw_reg _ (by kernel_rfl) rfl ?_
                iterate 2 refine zst tabok rfl rfl rfl ?_
                refine ops_nil ?_
                refine aw_if rfl (fun c22 => ?_) (fun c22 => ?_)
                · try simp only [Bool.or_eq_true, Bool.and_eq_true, Bool.not_eq_true', Bool.not_eq_false', Bool.or_eq_false_iff, Bool.and_eq_false_imp, decide_eq_true_eq, decide_eq_false_iff_not, Bool.not_true, Bool.not_false, beq_iff_eq, Bool.not_eq_true, Bool.not_eq_false, Bool.true_eq_false, Bool.false_eq_true, not_or, Decidable.not_not, ne_eq] at c22
                  try simp only [Int.toNat_natCast, dflt_i, dflt_b, dflt_l, dflt_p, Int.toNat_zero, gt_iff_lt, ge_iff_le] at c22
                  obtain ⟨g', hg'⟩ : ∃ g' : Nat, g' = g + 1 := ⟨_, rfl⟩
                  obtain ⟨z, hz, hze⟩ : ∃ z : List Int, Lim z ∧ z = [] := ⟨[], .nil, rfl⟩
                  have he : r1.take (lim (a / 2 ^ (j + 1) % b)).length ++ [c] = lim v ++ z := by rw [hze, List.append_nil]; exact hse.1 (by omega)
                  have hlv : (lim (a / 2 ^ (j + 1) % b)).length + 1 = (lim v).length := by have := congrArg List.length he; rw [hze] at this; simp at this; omega
                  have hzl : (lim v).length + z.length ≤ 2000 := by rw [hze]; simp; omega
                  refine aw_reg _ (by kernel_rfl) rfl ?_
                  iterate 2 refine zst tabok rfl rfl rfl ?_
                  refine stb tabok rfl rfl (by kernel_rfl) rfl ?_
                  refine sap tabok rfl rfl (by kernel_rfl) rfl (by exact ⟨True.intro, rfl, Nat.zero_lt_succ 0, (show (lim (a / 2 ^ (j + 1) % b)).length ≤ r1.length by omega), (show ((lim (a / 2 ^ (j + 1) % b)).length + 1) * 4 ≤ 140737488355328 by omega), (show (lim (a / 2 ^ (j + 1) % b)).length + 1 ≤ 140737488355328 by omega)⟩) ?_
                  refine zst tabok rfl rfl rfl ?_
                  refine ops_nil ?_
                  refine aw_seq ?_
                  refine awB_goes ((by refine goes_to (tm := [(0, .row TU32 (lim a)), (1, .row TU32 (lim b)), (9, .view 0 0 0 (lim a).length), (10, .view 1 g' 0 (lim v).length), (11, .int .i64 (j : Int))]) (st := [.obj 0 80 1 [.lst TU32 q], .obj g' 80 1 [.lst TU32 (lim v ++ z)]]) [true, true] rfl rfl ⟨?_, (by rw [hg']; exact q_lst he), True.intro⟩ ⟨?_, ?_, ?_, (by refine sk ?_ rfl; exact q_view rfl hg'.symm rfl hlv), ?_, True.intro⟩ <;> first | rfl | exact q_lst (by simp) | exact q_grow (by simp) | exact sk rfl rfl | exact sk (q_int (by omega)) rfl | exact sk (q_bool (by simp)) rfl | exact sk (q_view rfl rfl rfl (by omega)) rfl | exact sk (q_gview rfl (by simp)) rfl | exact sk (q_nil rfl) rfl | exact sk (q_row (by simp)) rfl | exact sk_g rfl rfl rfl rfl | exact sk_v rfl rfl rfl rfl rfl | exact sk_n rfl)) ?_
                  change awpB _ _ _ _ _ (outT (look [(0, .row TU32 (lim a)), (1, .row TU32 (lim b)), (9, .view 0 0 0 (lim a).length), (10, .view 1 g' 0 (lim v).length), (11, .int .i64 (j : Int))])) (outS [.obj 0 80 1 [.lst TU32 q], .obj g' 80 1 [.lst TU32 (lim v ++ z)]])
                  refine aw_reg _ (by kernel_rfl) rfl ?_
                  iterate 2 refine zst tabok rfl rfl rfl ?_
                  refine sf (cmp_ok2 v b (by omega) (by omega)) rfl rfl (by kernel_rfl) rfl (by kernel_rfl) (.cons (by first | exact fs rfl | exact fs_fn .nil (.cons (fs_ptr rfl rfl) .nil) | exact fs_ptr rfl rfl | exact fs_all rfl rfl rfl rfl | exact fs_view rfl rfl (by omega) rfl | exact fs_gview rfl rfl rfl | exact fs_nil rfl | exact fs_view rfl rfl (by simp) (by simp)) (.cons (by first | exact fs rfl | exact fs_fn .nil (.cons (fs_ptr rfl rfl) .nil) | exact fs_ptr rfl rfl | exact fs_all rfl rfl rfl rfl | exact fs_view rfl rfl (by omega) rfl | exact fs_gview rfl rfl rfl | exact fs_nil rfl | exact fs_view rfl rfl (by simp) (by simp)) .nil)) rfl ?_
                  refine zst tabok rfl rfl rfl ?_
                  refine ops_nil ?_
                  refine aw_if rfl (fun c24 => ?_) (fun c24 => ?_)
                  · try simp only [Bool.or_eq_true, Bool.and_eq_true, Bool.not_eq_true', Bool.not_eq_false', Bool.or_eq_false_iff, Bool.and_eq_false_imp, decide_eq_true_eq, decide_eq_false_iff_not, Bool.not_true, Bool.not_false, beq_iff_eq, Bool.not_eq_true, Bool.not_eq_false, Bool.true_eq_false, Bool.false_eq_true, not_or, Decidable.not_not, ne_eq] at c24
                    try simp only [Int.toNat_natCast, dflt_i, dflt_b, dflt_l, dflt_p, Int.toNat_zero, gt_iff_lt, ge_iff_le] at c24
                    refine aw_seq ?_
                    refine aw_reg _ (by kernel_rfl) rfl ?_
                    iterate 2 refine zst tabok rfl rfl rfl ?_
                    refine sca [1] (less_sc g' (lim v).length (lim v ++ z) v b ((lim_Lim v).app hz) (by rw [List.length_append]; omega) (by rw [List.length_append]; omega) (by simp) (by have := cmp_nn.1 c24; omega)) rfl rfl (by kernel_rfl) rfl (by kernel_rfl) rfl rfl rfl rfl rfl rfl rfl rfl rfl rfl ⟨(by first | rfl | exact q_obj rfl), True.intro⟩ (.cons (by first | exact argw_same | exact argw_nil | exact argw_tt | exact argw_ff | exact argw_eq rfl) (.cons (by first | exact argw_same | exact argw_nil | exact argw_tt | exact argw_ff | exact argw_eq rfl) .nil)) ?_
                    refine zst tabok rfl rfl rfl ?_
                    refine ops_nil ?_
                    refine aw_regD true _ (by kernel_rfl) (by kernel_rfl) (by kernel_rfl) rfl ?_
                    iterate 7 refine sdq (m := false) tabok rfl rfl (by (repeat' apply And.intro) <;> first | exact True.intro | rfl | omega | (simp only [inr, IntKind.bits, Int.toNat_natCast, dflt_i, dflt_b, dflt_l, dflt_p, Int.toNat_zero, gt_iff_lt, ge_iff_le, tnat_add, tnat_sub1, tnat_div32, tnat_mod32, ti3, ti4, ti34, ti44, ti53, ti80]; omega) | exact fun h => h | (intro hq; rw [hq]; rfl) | (simp [SV.cellsL, SV.cells] <;> omega) | (simp_all; done)) ?_
                    refine sd (m := false) tabok rfl rfl rfl (by refine ⟨by omega, by show (j : Int) % 32 ≤ 32; omega, ?_⟩; rw [tnat_mod32]; have := pow31 (k := j % 32) (by omega); simp only [inr]; omega) ?_
                    iterate 3 refine sdq (m := false) tabok rfl rfl (by (repeat' apply And.intro) <;> first | exact True.intro | rfl | omega | (simp only [inr, IntKind.bits, Int.toNat_natCast, dflt_i, dflt_b, dflt_l, dflt_p, Int.toNat_zero, gt_iff_lt, ge_iff_le, tnat_add, tnat_sub1, tnat_div32, tnat_mod32, ti3, ti4, ti34, ti44, ti53, ti80]; omega) | exact fun h => h | (intro hq; rw [hq]; rfl) | (simp [SV.cellsL, SV.cells] <;> omega) | (simp_all; done)) ?_
                    refine opd_nil ?_
                    refine aw_reg _ (by kernel_rfl) rfl ?_
                    iterate 3 refine stq (m := false) tabok rfl rfl (by (repeat' apply And.intro) <;> first | exact True.intro | rfl | omega | (simp only [inr, IntKind.bits, Int.toNat_natCast, dflt_i, dflt_b, dflt_l, dflt_p, Int.toNat_zero, gt_iff_lt, ge_iff_le, tnat_add, tnat_sub1, tnat_div32, tnat_mod32, ti3, ti4, ti34, ti44, ti53, ti80]; omega) | exact fun h => h | (intro hq; rw [hq]; rfl) | (simp [SV.cellsL, SV.cells] <;> omega) | (simp_all; done)) ?_
                    refine ops_nil ?_
                    -- leaf L0.16f.22t.24t
                    refine Exists.intro ((j, q.set (j / 32) (q.getD (j / 32) 0 + 2 ^ (j % 32)), g', padL (lim v).length (v - b) ++ (lim v ++ z).drop (lim v).length)) ⟨?_, ?_, ?_⟩
                    · exact (by refine goes_to (tm := _) (st := _) [true, true] rfl rfl ⟨(by exact q_lst ((cg2 (fun u v => q.set u (bitsI .or .u32 (q.getD u 0) (1 * 2 ^ v))) (tnat_div32 j) (tnat_mod32 j)).trans (congrArg (q.set (j / 32)) hsb.1))), ?_, True.intro⟩ ⟨?_, ?_, ?_, (by refine sk ?_ rfl; exact q_view rfl rfl rfl (by rw [hsr, (hds.1 (cmp_nn.1 c24)).2])), ?_, True.intro⟩ <;> first | rfl | exact q_lst (by simp) | exact q_grow (by simp) | exact sk rfl rfl | exact sk (q_int (by omega)) rfl | exact sk (q_bool (by simp)) rfl | exact sk (q_view rfl rfl rfl (by omega)) rfl | exact sk (q_gview rfl (by simp)) rfl | exact sk (q_nil rfl) rfl | exact sk (q_row (by simp)) rfl | exact sk_g rfl rfl rfl rfl | exact sk_v rfl rfl rfl rfl rfl | exact sk_n rfl)
                    · try dsimp only
                      have hge2 := cmp_nn.1 c24
                      obtain ⟨d1, d2⟩ := hds.1 hge2
                      rw [← hsr] at d1 d2
                      have hle := lim_len_le (Nat.sub_le v b)
                      refine ⟨by omega, by simp; omega, hsb.2.1, by rw [d1]; exact hsb.2.2, (padL_Lim _ _).app (((lim_Lim v).app hz).drop _), ?_, ?_⟩
                      · rw [d2]; simp [padL_len]; exact ⟨by omega, by omega⟩
                      · rw [d2, List.take_append_of_le_length (by rw [padL_len]; omega)]; exact padL_take hle
                    · (try dsimp only); omega
                  · try simp only [Bool.or_eq_true, Bool.and_eq_true, Bool.not_eq_true', Bool.not_eq_false', Bool.or_eq_false_iff, Bool.and_eq_false_imp, decide_eq_true_eq, decide_eq_false_iff_not, Bool.not_true, Bool.not_false, beq_iff_eq, Bool.not_eq_true, Bool.not_eq_false, Bool.true_eq_false, Bool.false_eq_true, not_or, Decidable.not_not, ne_eq] at c24
                    try simp only [Int.toNat_natCast, dflt_i, dflt_b, dflt_l, dflt_p, Int.toNat_zero, gt_iff_lt, ge_iff_le] at c24
                    refine aw_skip ?_
                    refine aw_reg _ (by kernel_rfl) rfl ?_
                    iterate 3 refine stq (m := false) tabok rfl rfl (by (repeat' apply And.intro) <;> first | exact True.intro | rfl | omega | (simp only [inr, IntKind.bits, Int.toNat_natCast, dflt_i, dflt_b, dflt_l, dflt_p, Int.toNat_zero, gt_iff_lt, ge_iff_le, tnat_add, tnat_sub1, tnat_div32, tnat_mod32, ti3, ti4, ti34, ti44, ti53, ti80]; omega) | exact fun h => h | (intro hq; rw [hq]; rfl) | (simp [SV.cellsL, SV.cells] <;> omega) | (simp_all; done)) ?_
                    refine ops_nil ?_
                    -- leaf L0.16f.22t.24f
                    refine Exists.intro ((j, q, g', lim v ++ z)) ⟨?_, ?_, ?_⟩
                    · exact (by refine goes_to (tm := _) (st := _) [true, true] rfl rfl ⟨?_, ?_, True.intro⟩ ⟨?_, ?_, ?_, (by refine sk ?_ rfl; exact q_view rfl rfl rfl (by rw [hsr, (hds.2 (by have h : ¬ b ≤ v := fun h => c24 (cmp_nn.2 h); omega)).2])), ?_, True.intro⟩ <;> first | rfl | exact q_lst (by simp) | exact q_grow (by simp) | exact sk rfl rfl | exact sk (q_int (by omega)) rfl | exact sk (q_bool (by simp)) rfl | exact sk (q_view rfl rfl rfl (by omega)) rfl | exact sk (q_gview rfl (by simp)) rfl | exact sk (q_nil rfl) rfl | exact sk (q_row (by simp)) rfl | exact sk_g rfl rfl rfl rfl | exact sk_v rfl rfl rfl rfl rfl | exact sk_n rfl)
                    · try dsimp only
                      obtain ⟨d1, d2⟩ := hds.2 (by have h : ¬ b ≤ v := fun h => c24 (cmp_nn.2 h); omega)
                      rw [← hsr] at d1 d2
                      refine ⟨by omega, by omega, hq, by rw [d1, hqv, Nat.pow_succ]; congr 1; grind, (lim_Lim v).app hz, ?_, ?_⟩
                      · rw [d2]; simp; omega
                      · rw [d2]; simp
                    · (try dsimp only); omega
                · try simp only [Bool.or_eq_true, Bool.and_eq_true, Bool.not_eq_true', Bool.not_eq_false', Bool.or_eq_false_iff, Bool.and_eq_false_imp, decide_eq_true_eq, decide_eq_false_iff_not, Bool.not_true, Bool.not_false, beq_iff_eq, Bool.not_eq_true, Bool.not_eq_false, Bool.true_eq_false, Bool.false_eq_true, not_or, Decidable.not_not, ne_eq] at c22
                  try simp only [Int.toNat_natCast, dflt_i, dflt_b, dflt_l, dflt_p, Int.toNat_zero, gt_iff_lt, ge_iff_le] at c22
                  obtain ⟨g', hg'⟩ : ∃ g' : Nat, g' = g := ⟨_, rfl⟩
                  have htk := hse.2 (by omega)
                  obtain ⟨z, hz, he⟩ : ∃ z : List Int, Lim z ∧ r1 = lim v ++ z := ⟨r1.drop (lim (a / 2 ^ (j + 1) % b)).length, h1.drop _, by rw [← htk, List.take_append_drop]⟩
                  have hlv : (lim (a / 2 ^ (j + 1) % b)).length = (lim v).length := by have := congrArg List.length htk; rw [List.length_take] at this; omega
                  have hzl : (lim v).length + z.length ≤ 2000 := by have := congrArg List.length he; rw [List.length_append] at this; omega
                  refine aw_skip ?_
                  refine aw_seq ?_
                  refine awB_goes ((by refine goes_to (tm := [(0, .row TU32 (lim a)), (1, .row TU32 (lim b)), (9, .view 0 0 0 (lim a).length), (10, .view 1 g' 0 (lim v).length), (11, .int .i64 (j : Int))]) (st := [.obj 0 80 1 [.lst TU32 q], .obj g' 80 1 [.lst TU32 (lim v ++ z)]]) [true, true] rfl rfl ⟨?_, (by rw [hg']; exact q_lst he), True.intro⟩ ⟨?_, ?_, ?_, (by refine sk ?_ rfl; exact q_view rfl hg'.symm rfl hlv), ?_, True.intro⟩ <;> first | rfl | exact q_lst (by simp) | exact q_grow (by simp) | exact sk rfl rfl | exact sk (q_int (by omega)) rfl | exact sk (q_bool (by simp)) rfl | exact sk (q_view rfl rfl rfl (by omega)) rfl | exact sk (q_gview rfl (by simp)) rfl | exact sk (q_nil rfl) rfl | exact sk (q_row (by simp)) rfl | exact sk_g rfl rfl rfl rfl | exact sk_v rfl rfl rfl rfl rfl | exact sk_n rfl)) ?_
                  change awpB _ _ _ _ _ (outT (look [(0, .row TU32 (lim a)), (1, .row TU32 (lim b)), (9, .view 0 0 0 (lim a).length), (10, .view 1 g' 0 (lim v).length), (11, .int .i64 (j : Int))])) (outS [.obj 0 80 1 [.lst TU32 q], .obj g' 80 1 [.lst TU32 (lim v ++ z)]])
                  refine aw_reg _ (by kernel_rfl) rfl ?_
                  iterate 2 refine zst tabok rfl rfl rfl ?_
                  refine sf (cmp_ok2 v b (by omega) (by omega)) rfl rfl (by kernel_rfl) rfl (by kernel_rfl) (.cons (by first | exact fs rfl | exact fs_fn .nil (.cons (fs_ptr rfl rfl) .nil) | exact fs_ptr rfl rfl | exact fs_all rfl rfl rfl rfl | exact fs_view rfl rfl (by omega) rfl | exact fs_gview rfl rfl rfl | exact fs_nil rfl | exact fs_view rfl rfl (by simp) (by simp)) (.cons (by first | exact fs rfl | exact fs_fn .nil (.cons (fs_ptr rfl rfl) .nil) | exact fs_ptr rfl rfl | exact fs_all rfl rfl rfl rfl | exact fs_view rfl rfl (by omega) rfl | exact fs_gview rfl rfl rfl | exact fs_nil rfl | exact fs_view rfl rfl (by simp) (by simp)) .nil)) rfl ?_
                  refine zst tabok rfl rfl rfl ?_
                  refine ops_nil ?_
                  refine aw_if rfl (fun c24 => ?_) (fun c24 => ?_)
                  · try simp only [Bool.or_eq_true, Bool.and_eq_true, Bool.not_eq_true', Bool.not_eq_false', Bool.or_eq_false_iff, Bool.and_eq_false_imp, decide_eq_true_eq, decide_eq_false_iff_not, Bool.not_true, Bool.not_false, beq_iff_eq, Bool.not_eq_true, Bool.not_eq_false, Bool.true_eq_false, Bool.false_eq_true, not_or, Decidable.not_not, ne_eq] at c24
                    try simp only [Int.toNat_natCast, dflt_i, dflt_b, dflt_l, dflt_p, Int.toNat_zero, gt_iff_lt, ge_iff_le] at c24
                    refine aw_seq ?_
                    refine aw_reg _ (by kernel_rfl) rfl ?_
                    iterate 2 refine zst tabok rfl rfl rfl ?_
                    refine sca [1] (less_sc g' (lim v).length (lim v ++ z) v b ((lim_Lim v).app hz) (by rw [List.length_append]; omega) (by rw [List.length_append]; omega) (by simp) (by have := cmp_nn.1 c24; omega)) rfl rfl (by kernel_rfl) rfl (by kernel_rfl) rfl rfl rfl rfl rfl rfl rfl rfl rfl rfl ⟨(by first | rfl | exact q_obj rfl), True.intro⟩ (.cons (by first | exact argw_same | exact argw_nil | exact argw_tt | exact argw_ff | exact argw_eq rfl) (.cons (by first | exact argw_same | exact argw_nil | exact argw_tt | exact argw_ff | exact argw_eq rfl) .nil)) ?_
                    refine zst tabok rfl rfl rfl ?_
                    refine ops_nil ?_
                    refine aw_regD true _ (by kernel_rfl) (by kernel_rfl) (by kernel_rfl) rfl ?_
                    iterate 7 refine sdq (m := false) tabok rfl rfl (by (repeat' apply And.intro) <;> first | exact True.intro | rfl | omega | (simp only [inr, IntKind.bits, Int.toNat_natCast, dflt_i, dflt_b, dflt_l, dflt_p, Int.toNat_zero, gt_iff_lt, ge_iff_le, tnat_add, tnat_sub1, tnat_div32, tnat_mod32, ti3, ti4, ti34, ti44, ti53, ti80]; omega) | exact fun h => h | (intro hq; rw [hq]; rfl) | (simp [SV.cellsL, SV.cells] <;> omega) | (simp_all; done)) ?_
                    refine sd (m := false) tabok rfl rfl rfl (by refine ⟨by omega, by show (j : Int) % 32 ≤ 32; omega, ?_⟩; rw [tnat_mod32]; have := pow31 (k := j % 32) (by omega); simp only [inr]; omega) ?_
                    iterate 3 refine sdq (m := false) tabok rfl rfl (by (repeat' apply And.intro) <;> first | exact True.intro | rfl | omega | (simp only [inr, IntKind.bits, Int.toNat_natCast, dflt_i, dflt_b, dflt_l, dflt_p, Int.toNat_zero, gt_iff_lt, ge_iff_le, tnat_add, tnat_sub1, tnat_div32, tnat_mod32, ti3, ti4, ti34, ti44, ti53, ti80]; omega) | exact fun h => h | (intro hq; rw [hq]; rfl) | (simp [SV.cellsL, SV.cells] <;> omega) | (simp_all; done)) ?_
                    refine opd_nil ?_
                    refine aw_reg _ (by kernel_rfl) rfl ?_
                    iterate 3 refine stq (m := false) tabok rfl rfl (by (repeat' apply And.intro) <;> first | exact True.intro | rfl | omega | (simp only [inr, IntKind.bits, Int.toNat_natCast, dflt_i, dflt_b, dflt_l, dflt_p, Int.toNat_zero, gt_iff_lt, ge_iff_le, tnat_add, tnat_sub1, tnat_div32, tnat_mod32, ti3, ti4, ti34, ti44, ti53, ti80]; omega) | exact fun h => h | (intro hq; rw [hq]; rfl) | (simp [SV.cellsL, SV.cells] <;> omega) | (simp_all; done)) ?_
                    refine ops_nil ?_
                    -- leaf L0.16f.22f.24t
                    refine Exists.intro ((j, q.set (j / 32) (q.getD (j / 32) 0 + 2 ^ (j % 32)), g', padL (lim v).length (v - b) ++ (lim v ++ z).drop (lim v).length)) ⟨?_, ?_, ?_⟩
                    · exact (by refine goes_to (tm := _) (st := _) [true, true] rfl rfl ⟨(by exact q_lst ((cg2 (fun u v => q.set u (bitsI .or .u32 (q.getD u 0) (1 * 2 ^ v))) (tnat_div32 j) (tnat_mod32 j)).trans (congrArg (q.set (j / 32)) hsb.1))), ?_, True.intro⟩ ⟨?_, ?_, ?_, (by refine sk ?_ rfl; exact q_view rfl rfl rfl (by rw [hsr, (hds.1 (cmp_nn.1 c24)).2])), ?_, True.intro⟩ <;> first | rfl | exact q_lst (by simp) | exact q_grow (by simp) | exact sk rfl rfl | exact sk (q_int (by omega)) rfl | exact sk (q_bool (by simp)) rfl | exact sk (q_view rfl rfl rfl (by omega)) rfl | exact sk (q_gview rfl (by simp)) rfl | exact sk (q_nil rfl) rfl | exact sk (q_row (by simp)) rfl | exact sk_g rfl rfl rfl rfl | exact sk_v rfl rfl rfl rfl rfl | exact sk_n rfl)
                    · try dsimp only
                      have hge2 := cmp_nn.1 c24
                      obtain ⟨d1, d2⟩ := hds.1 hge2
                      rw [← hsr] at d1 d2
                      have hle := lim_len_le (Nat.sub_le v b)
                      refine ⟨by omega, by simp; omega, hsb.2.1, by rw [d1]; exact hsb.2.2, (padL_Lim _ _).app (((lim_Lim v).app hz).drop _), ?_, ?_⟩
                      · rw [d2]; simp [padL_len]; exact ⟨by omega, by omega⟩
                      · rw [d2, List.take_append_of_le_length (by rw [padL_len]; omega)]; exact padL_take hle
                    · (try dsimp only); omega
                  · try simp only [Bool.or_eq_true, Bool.and_eq_true, Bool.not_eq_true', Bool.not_eq_false', Bool.or_eq_false_iff, Bool.and_eq_false_imp, decide_eq_true_eq, decide_eq_false_iff_not, Bool.not_true, Bool.not_false, beq_iff_eq, Bool.not_eq_true, Bool.not_eq_false, Bool.true_eq_false, Bool.false_eq_true, not_or, Decidable.not_not, ne_eq] at c24
                    try simp only [Int.toNat_natCast, dflt_i, dflt_b, dflt_l, dflt_p, Int.toNat_zero, gt_iff_lt, ge_iff_le] at c24
                    refine aw_skip ?_
                    refine aw_reg _ (by kernel_rfl) rfl ?_
                    iterate 3 refine stq (m := false) tabok rfl rfl (by (repeat' apply And.intro) <;> first | exact True.intro | rfl | omega | (simp only [inr, IntKind.bits, Int.toNat_natCast, dflt_i, dflt_b, dflt_l, dflt_p, Int.toNat_zero, gt_iff_lt, ge_iff_le, tnat_add, tnat_sub1, tnat_div32, tnat_mod32, ti3, ti4, ti34, ti44, ti53, ti80]; omega) | exact fun h => h | (intro hq; rw [hq]; rfl) | (simp [SV.cellsL, SV.cells] <;> omega) | (simp_all; done)) ?_
                    refine ops_nil ?_
                    -- leaf L0.16f.22f.24f
                    refine Exists.intro ((j, q, g', lim v ++ z)) ⟨?_, ?_, ?_⟩
                    · exact (by refine goes_to (tm := _) (st := _) [true, true] rfl rfl ⟨?_, ?_, True.intro⟩ ⟨?_, ?_, ?_, (by refine sk ?_ rfl; exact q_view rfl rfl rfl (by rw [hsr, (hds.2 (by have h : ¬ b ≤ v := fun h => c24 (cmp_nn.2 h); omega)).2])), ?_, True.intro⟩ <;> first | rfl | exact q_lst (by simp) | exact q_grow (by simp) | exact sk rfl rfl | exact sk (q_int (by omega)) rfl | exact sk (q_bool (by simp)) rfl | exact sk (q_view rfl rfl rfl (by omega)) rfl | exact sk (q_gview rfl (by simp)) rfl | exact sk (q_nil rfl) rfl | exact sk (q_row (by simp)) rfl | exact sk_g rfl rfl rfl rfl | exact sk_v rfl rfl rfl rfl rfl | exact sk_n rfl)
                    · try dsimp only
                      obtain ⟨d1, d2⟩ := hds.2 (by have h : ¬ b ≤ v := fun h => c24 (cmp_nn.2 h); omega)
                      rw [← hsr] at d1 d2
                      refine ⟨by omega, by omega, hq, by rw [d1, hqv, Nat.pow_succ]; congr 1; grind, (lim_Lim v).app hz, ?_, ?_⟩
                      · rw [d2]; simp; omega
                      · rw [d2]; simp
                    · (try dsimp only); omega
          · try simp only [Bool.or_eq_true, Bool.and_eq_true, Bool.not_eq_true', Bool.not_eq_false', Bool.or_eq_false_iff, Bool.and_eq_false_imp, decide_eq_true_eq, decide_eq_false_iff_not, Bool.not_true, Bool.not_false, beq_iff_eq, Bool.not_eq_true, Bool.not_eq_false, Bool.true_eq_false, Bool.false_eq_true, not_or, Decidable.not_not, ne_eq] at c12
            try simp only [Int.toNat_natCast, dflt_i, dflt_b, dflt_l, dflt_p, Int.toNat_zero, gt_iff_lt, ge_iff_le] at c12
            refine aw_exit ?_
            refine aw_seq ?_
            refine aw_reg _ (by kernel_rfl) rfl ?_
            refine zst tabok rfl rfl rfl ?_
            refine sca [0] (trim_sc 0 (lim a).length q (by omega) (by omega)) rfl rfl (by kernel_rfl) rfl (by kernel_rfl) rfl rfl rfl rfl rfl rfl rfl rfl rfl rfl ⟨(by first | rfl | exact q_obj rfl), True.intro⟩ (.cons (by first | exact argw_same | exact argw_nil | exact argw_tt | exact argw_ff | exact argw_eq rfl) .nil) ?_
            iterate 4 refine zst tabok rfl rfl rfl ?_
            refine ops_nil ?_
            refine aw_ret ?_
            -- leaf ret.12f
            refine ret_c ?_
            have e : K = 0 := by omega
            subst e
            simp only [Nat.pow_zero, Nat.div_one, Nat.mul_one] at *
            obtain ⟨e1, e2⟩ := tn_of (l := q) (n := (lim a).length) hq (by omega) (by rw [List.take_of_length_le (by omega)]; exact hqv)
            have e3 := tn_le q (lim a).length
            exact fs_tup (.cons (fs_view rfl rfl (by omega) (by rw [e1]; exact e2)) (.cons (fs_view rfl rfl (by omega) hrv) (.cons (fs rfl) .nil)))
end Go.Sim
end
section
namespace Go.Sim
open Go Go.Proofs
set_option maxRecDepth 10000
set_option autoImplicit false
set_option linter.unusedSimpArgs false
set_option linter.unusedVariables false
theorem gcd_ok (a b : Nat) (ha : Sm a) (hb : Sm b) : CS Try.prog 79 [.row TU32 (lim a), .row TU32 (lim b)] (.row TU32 (lim (Nat.gcd a b))) := by
  refine fn_c [4] Try.func79 Try.ntmps79 rfl rfl rfl rfl ?_
  refine aw_seq ?_
  refine aw_reg _ (by kernel_rfl) rfl ?_
  refine zst tabok rfl rfl rfl ?_
  refine ops_nil ?_
  refine aw_seq ?_
  refine aw_reg _ (by kernel_rfl) rfl ?_
  refine zst tabok rfl rfl rfl ?_
  refine sc (norm_ok a ha) rfl rfl (by kernel_rfl) rfl (by kernel_rfl) (.cons (by first | exact argw_same | exact argw_nil | exact argw_tt | exact argw_ff | exact argw_eq rfl) .nil) ?_
  refine zst tabok rfl rfl rfl ?_
  refine sc (norm_ok b hb) rfl rfl (by kernel_rfl) rfl (by kernel_rfl) (.cons (by first | exact argw_same | exact argw_nil | exact argw_tt | exact argw_ff | exact argw_eq rfl) .nil) ?_
  iterate 2 refine zst tabok rfl rfl rfl ?_
  refine ops_nil ?_
  refine aw_seq ?_
  refine aw_block ?_
  refine aw_loop (X := (Nat) × (Nat)) (fun (x : (Nat) × (Nat)) => match x with | (x, y) => outT (look [(0, .row TU32 (lim x)), (1, .row TU32 (lim y))])) (fun (x : (Nat) × (Nat)) => match x with | (x, y) => outS []) (fun (x : (Nat) × (Nat)) => match x with | (x, y) => ((lim x).length ≤ 1000 ∧ (lim y).length ≤ 1000) ∧ (Nat.gcd x y = Nat.gcd a b)) (fun (x : (Nat) × (Nat)) => match x with | (x, y) => y) ((a, b)) ?_ ?_ ?_
  -- leaf L0:entry
  · exact (by refine goes_to (tm := _) (st := _) [] rfl rfl True.intro ⟨?_, ?_, True.intro⟩ <;> first | exact sk rfl rfl | exact sk (q_int (by omega)) rfl | exact sk (q_bool (by simp)) rfl | exact sk (q_view rfl rfl rfl (by omega)) rfl | exact sk (q_gview rfl (by simp)) rfl | exact sk (q_nil rfl) rfl | exact sk (q_row (by simp)) rfl | exact sk_g rfl rfl rfl rfl | exact sk_v rfl rfl rfl rfl rfl | exact sk_n rfl)
  · exact ⟨⟨ha, hb⟩, rfl⟩
  · skip
    rintro ⟨x, y⟩ ⟨hx, hg⟩
    change awpB _ _ _ _ _ (outT (look [(0, .row TU32 (lim x)), (1, .row TU32 (lim y))])) (outS [])
    refine aw_seq ?_
    refine aw_seq ?_
    refine aw_reg _ (by kernel_rfl) rfl ?_
    iterate 3 refine zst tabok rfl rfl rfl ?_
    refine ops_nil ?_
    refine aw_if rfl (fun c2 => ?_) (fun c2 => ?_)
    · try simp only [Bool.or_eq_true, Bool.and_eq_true, Bool.not_eq_true', Bool.not_eq_false', Bool.or_eq_false_iff, Bool.and_eq_false_imp, decide_eq_true_eq, decide_eq_false_iff_not, Bool.not_true, Bool.not_false, beq_iff_eq, Bool.not_eq_true, Bool.not_eq_false, Bool.true_eq_false, Bool.false_eq_true, not_or, Decidable.not_not, ne_eq] at c2
      try simp only [Int.toNat_natCast, dflt_i, dflt_b, dflt_l, dflt_p, Int.toNat_zero, gt_iff_lt, ge_iff_le] at c2
      have hy : 0 < y := pos_len (by omega)
      have hyl := lim_len_le (Nat.le_of_lt (Nat.mod_lt x hy))
      refine aw_skip ?_
      refine aw_block ?_
      refine aw_seq ?_
      refine aw_reg _ (by kernel_rfl) rfl ?_
      iterate 2 refine zst tabok rfl rfl rfl ?_
      refine sc (divmod_ok x y hx.1 hx.2 hy) rfl rfl (by kernel_rfl) rfl (by kernel_rfl) (.cons (by first | exact argw_same | exact argw_nil | exact argw_tt | exact argw_ff | exact argw_eq rfl) (.cons (by first | exact argw_same | exact argw_nil | exact argw_tt | exact argw_ff | exact argw_eq rfl) .nil)) ?_
      iterate 7 refine zst tabok rfl rfl rfl ?_
      refine ops_nil ?_
      refine aw_reg _ (by kernel_rfl) rfl ?_
      iterate 4 refine zst tabok rfl rfl rfl ?_
      refine ops_nil ?_
      -- leaf L0.2t
      refine Exists.intro ((y, x % y)) ⟨?_, ?_, ?_⟩
      · exact (by refine goes_to (tm := _) (st := _) [] rfl rfl True.intro ⟨?_, ?_, True.intro⟩ <;> first | exact sk rfl rfl | exact sk (q_int (by omega)) rfl | exact sk (q_bool (by simp)) rfl | exact sk (q_view rfl rfl rfl (by omega)) rfl | exact sk (q_gview rfl (by simp)) rfl | exact sk (q_nil rfl) rfl | exact sk (q_row (by simp)) rfl | exact sk_g rfl rfl rfl rfl | exact sk_v rfl rfl rfl rfl rfl | exact sk_n rfl)
      · try dsimp only
        exact ⟨⟨by omega, by omega⟩, by rw [← hg, Nat.gcd_comm x y, Nat.gcd_rec y x, Nat.gcd_comm]⟩
      · (try dsimp only); exact Nat.mod_lt x hy
    · try simp only [Bool.or_eq_true, Bool.and_eq_true, Bool.not_eq_true', Bool.not_eq_false', Bool.or_eq_false_iff, Bool.and_eq_false_imp, decide_eq_true_eq, decide_eq_false_iff_not, Bool.not_true, Bool.not_false, beq_iff_eq, Bool.not_eq_true, Bool.not_eq_false, Bool.true_eq_false, Bool.false_eq_true, not_or, Decidable.not_not, ne_eq] at c2
      try simp only [Int.toNat_natCast, dflt_i, dflt_b, dflt_l, dflt_p, Int.toNat_zero, gt_iff_lt, ge_iff_le] at c2
      refine aw_exit ?_
      refine aw_seq ?_
      refine aw_reg _ (by kernel_rfl) rfl ?_
      iterate 2 refine zst tabok rfl rfl rfl ?_
      refine ops_nil ?_
      refine aw_ret ?_
      -- leaf ret.2f
      refine ret_c ?_
      have e : y = 0 := lim_nil.1 (List.eq_nil_of_length_eq_zero (by omega))
      subst e
      exact fs_row (by rw [← hg, Nat.gcd_zero_right])
abbrev intV (n : Nat) : SV := .agg [.bool false, .row TU32 (lim n)]
abbrev ratZ (n d : Nat) : SV := .agg [.bool false, .row TU32 (lim n), .row TU32 (lim d)]
theorem signed_ok (a : Nat) (ha : Sm a) : CS Try.prog 76 [.bool false, .row TU32 (lim a)] (intV a) := by
  have ha' : (lim a).length ≤ 1000 := ha
  refine fn_k (tab := tab) tabok [.cell 4 36] Try.func76 Try.ntmps76 rfl rfl rfl rfl ?_
  refine aw_seq ?_
  refine aw_reg _ (by kernel_rfl) rfl ?_
  refine zst tabok rfl rfl rfl ?_
  refine ops_nil ?_
  refine aw_seq ?_
  refine aw_reg _ (by kernel_rfl) rfl ?_
  refine zst tabok rfl rfl rfl ?_
  refine sc (norm_ok a ha) rfl rfl (by kernel_rfl) rfl (by kernel_rfl) (.cons (by first | exact argw_same | exact argw_nil | exact argw_tt | exact argw_ff | exact argw_eq rfl) .nil) ?_
  refine zst tabok rfl rfl rfl ?_
  refine ops_nil ?_
  refine aw_seq ?_
  refine aw_reg _ (by kernel_rfl) rfl ?_
  iterate 2 refine zst tabok rfl rfl rfl ?_
  iterate 3 refine stg (m := false) tabok rfl rfl rfl rfl rfl (by intro hg; have hg0 := hg; (try simp only [Bool.or_eq_true, Bool.and_eq_true, Bool.not_eq_true', Bool.not_eq_false', Bool.or_eq_false_iff, Bool.and_eq_false_imp, decide_eq_true_eq, decide_eq_false_iff_not, Bool.not_true, Bool.not_false, beq_iff_eq, Bool.not_eq_true, Bool.not_eq_false, Bool.true_eq_false, Bool.false_eq_true, not_or, Decidable.not_not, ne_eq] at hg); (try simp only [Int.toNat_natCast, dflt_i, dflt_b, dflt_l, dflt_p, Int.toNat_zero, gt_iff_lt, ge_iff_le] at hg); (repeat' apply And.intro); all_goals first | exact hg0 | exact True.intro | rfl | omega | (simp only [inr]; omega) | (simp only [IntKind.bits]; omega) | (simp only [Bool.or_eq_true, Bool.and_eq_true, Bool.not_eq_true', Bool.not_eq_false', Bool.or_eq_false_iff, Bool.and_eq_false_imp, decide_eq_true_eq, decide_eq_false_iff_not, Bool.not_true, Bool.not_false, beq_iff_eq, Bool.not_eq_true, Bool.not_eq_false, Bool.true_eq_false, Bool.false_eq_true, not_or, Decidable.not_not, ne_eq]; omega) | (simp only [inr, Int.toNat_natCast, dflt_i, dflt_b, dflt_l, dflt_p, Int.toNat_zero, gt_iff_lt, ge_iff_le]; omega) | (simp only [Int.toNat_natCast, dflt_i, dflt_b, dflt_l, dflt_p, Int.toNat_zero, gt_iff_lt, ge_iff_le]; omega) | (simp only [Bool.or_eq_true, Bool.and_eq_true, Bool.not_eq_true', Bool.not_eq_false', Bool.or_eq_false_iff, Bool.and_eq_false_imp, decide_eq_true_eq, decide_eq_false_iff_not, Bool.not_true, Bool.not_false, beq_iff_eq, Bool.not_eq_true, Bool.not_eq_false, Bool.true_eq_false, Bool.false_eq_true, not_or, Decidable.not_not, ne_eq] at hg0 ⊢; simp_all; done) | (simp_all; done) | (simp_all; omega)) ?_
  iterate 4 refine stq (m := false) tabok rfl rfl (by (repeat' apply And.intro) <;> first | exact True.intro | rfl | omega | (simp only [inr, IntKind.bits, Int.toNat_natCast, dflt_i, dflt_b, dflt_l, dflt_p, Int.toNat_zero, gt_iff_lt, ge_iff_le, tnat_add, tnat_sub1, tnat_div32, tnat_mod32, ti3, ti4, ti34, ti36, ti38, ti44, ti53, ti80]; omega) | exact fun h => h | (intro hq; rw [hq]; rfl) | (simp [SV.cellsL, SV.cells] <;> omega) | (simp_all; done)) ?_
  refine ops_nil ?_
  refine aw_ret ?_
  -- leaf ret
  refine ret_k rfl (by (repeat' apply And.intro); all_goals first | exact True.intro | rfl | omega | (simp only [inr]; omega) | (simp only [IntKind.bits]; omega) | exact fun h => h | (intro hq; rw [hq]; rfl) | (simp only [Int.toNat_natCast, dflt_i, dflt_b, dflt_l, dflt_p, Int.toNat_zero, gt_iff_lt, ge_iff_le]; omega) | (simp only [ti3, ti4, ti34, ti36, ti38, ti44, ti53, ti80]; omega) | (simp [ti3, ti4, ti34, ti36, ti38, ti44, ti53, ti80]; omega) | (simp_all; done) | (simp [SV.cellsL, SV.cells]; done) | (simp [SV.cellsL, SV.cells]; omega) | (simp only [inr, Int.toNat_natCast, dflt_i, dflt_b, dflt_l, dflt_p, Int.toNat_zero, gt_iff_lt, ge_iff_le, tnat_add, tnat_sub1, tnat_div32, tnat_mod32]; omega)) ?_
  exact fs_aggs rfl rfl (.cons (fs_eq rfl rfl) (.cons (fs rfl) .nil))
theorem inorm_ok (a : Nat) (ha : Sm a) : CS Try.prog 59 [intV a] (intV a) := by
  refine fn_k (tab := tab) tabok [.cell 2 36] Try.func59 Try.ntmps59 rfl rfl rfl rfl ?_
  refine aw_seq ?_
  refine aw_reg _ (by kernel_rfl) rfl ?_
  iterate 2 refine zst tabok rfl rfl rfl ?_
  refine ops_nil ?_
  refine aw_seq ?_
  refine aw_reg _ (by kernel_rfl) rfl ?_
  iterate 4 refine stq (m := false) tabok rfl rfl (by (repeat' apply And.intro) <;> first | exact True.intro | rfl | omega | (simp only [inr, IntKind.bits, Int.toNat_natCast, dflt_i, dflt_b, dflt_l, dflt_p, Int.toNat_zero, gt_iff_lt, ge_iff_le, tnat_add, tnat_sub1, tnat_div32, tnat_mod32, ti3, ti4, ti34, ti36, ti38, ti44, ti53, ti80]; omega) | exact fun h => h | (intro hq; rw [hq]; rfl) | (simp [SV.cellsL, SV.cells] <;> omega) | (simp_all; done)) ?_
  refine sc (signed_ok a ha) rfl rfl (by kernel_rfl) rfl (by kernel_rfl) (.cons (by first | exact argw_same | exact argw_nil | exact argw_tt | exact argw_ff | exact argw_eq rfl) (.cons (by first | exact argw_same | exact argw_nil | exact argw_tt | exact argw_ff | exact argw_eq rfl) .nil)) ?_
  refine stq (m := false) tabok rfl rfl (by (repeat' apply And.intro) <;> first | exact True.intro | rfl | omega | (simp only [inr, IntKind.bits, Int.toNat_natCast, dflt_i, dflt_b, dflt_l, dflt_p, Int.toNat_zero, gt_iff_lt, ge_iff_le, tnat_add, tnat_sub1, tnat_div32, tnat_mod32, ti3, ti4, ti34, ti36, ti38, ti44, ti53, ti80]; omega) | exact fun h => h | (intro hq; rw [hq]; rfl) | (simp [SV.cellsL, SV.cells] <;> omega) | (simp_all; done)) ?_
  refine ops_nil ?_
  refine aw_ret ?_
  -- leaf ret
  refine ret_k rfl (by (repeat' apply And.intro); all_goals first | exact True.intro | rfl | omega | (simp only [inr]; omega) | (simp only [IntKind.bits]; omega) | exact fun h => h | (intro hq; rw [hq]; rfl) | (simp only [Int.toNat_natCast, dflt_i, dflt_b, dflt_l, dflt_p, Int.toNat_zero, gt_iff_lt, ge_iff_le]; omega) | (simp only [ti3, ti4, ti34, ti36, ti38, ti44, ti53, ti80]; omega) | (simp [ti3, ti4, ti34, ti36, ti38, ti44, ti53, ti80]; omega) | (simp_all; done) | (simp [SV.cellsL, SV.cells]; done) | (simp [SV.cellsL, SV.cells]; omega) | (simp only [inr, Int.toNat_natCast, dflt_i, dflt_b, dflt_l, dflt_p, Int.toNat_zero, gt_iff_lt, ge_iff_le, tnat_add, tnat_sub1, tnat_div32, tnat_mod32]; omega)) ?_
  exact fs_aggs rfl rfl (.cons (fs_eq rfl rfl) (.cons (fs rfl) .nil))
theorem sign_ok (a : Nat) (ha : Sm a) : CS Try.prog 74 [intV a] (.int .i64 (sgn a)) := by
  have ha' : (lim a).length ≤ 1000 := ha
  refine fn_c [2] Try.func74 Try.ntmps74 rfl rfl rfl rfl ?_
  refine aw_seq ?_
  refine aw_reg _ (by kernel_rfl) rfl ?_
  iterate 2 refine zst tabok rfl rfl rfl ?_
  refine ops_nil ?_
  refine aw_seq ?_
  refine aw_block ?_
  refine aw_seq ?_
  refine aw_reg _ (by kernel_rfl) rfl ?_
  iterate 2 refine stq (m := false) tabok rfl rfl (by (repeat' apply And.intro) <;> first | exact True.intro | rfl | omega | (simp only [inr, IntKind.bits, Int.toNat_natCast, dflt_i, dflt_b, dflt_l, dflt_p, Int.toNat_zero, gt_iff_lt, ge_iff_le, tnat_add, tnat_sub1, tnat_div32, tnat_mod32, ti3, ti4, ti34, ti36, ti38, ti44, ti53, ti80]; omega) | exact fun h => h | (intro hq; rw [hq]; rfl) | (simp [SV.cellsL, SV.cells] <;> omega) | (simp_all; done)) ?_
  refine sc (norm_ok a ha) rfl rfl (by kernel_rfl) rfl (by kernel_rfl) (.cons (by first | exact argw_same | exact argw_nil | exact argw_tt | exact argw_ff | exact argw_eq rfl) .nil) ?_
  iterate 3 refine zst tabok rfl rfl rfl ?_
  refine ops_nil ?_
  refine aw_if rfl (fun c1 => ?_) (fun c1 => ?_)
  · try simp only [Bool.or_eq_true, Bool.and_eq_true, Bool.not_eq_true', Bool.not_eq_false', Bool.or_eq_false_iff, Bool.and_eq_false_imp, decide_eq_true_eq, decide_eq_false_iff_not, Bool.not_true, Bool.not_false, beq_iff_eq, Bool.not_eq_true, Bool.not_eq_false, Bool.true_eq_false, Bool.false_eq_true, not_or, Decidable.not_not, ne_eq] at c1
    try simp only [Int.toNat_natCast, dflt_i, dflt_b, dflt_l, dflt_p, Int.toNat_zero, gt_iff_lt, ge_iff_le] at c1
    refine aw_seq ?_
    refine aw_reg _ (by kernel_rfl) rfl ?_
    refine zst tabok rfl rfl rfl ?_
    refine ops_nil ?_
    refine aw_ret ?_
    -- leaf ret.1t
    refine ret_c ?_
    have e : a = 0 := lim_nil.1 (List.eq_nil_of_length_eq_zero (by omega))
    subst e
    exact fs_int rfl
  · try simp only [Bool.or_eq_true, Bool.and_eq_true, Bool.not_eq_true', Bool.not_eq_false', Bool.or_eq_false_iff, Bool.and_eq_false_imp, decide_eq_true_eq, decide_eq_false_iff_not, Bool.not_true, Bool.not_false, beq_iff_eq, Bool.not_eq_true, Bool.not_eq_false, Bool.true_eq_false, Bool.false_eq_true, not_or, Decidable.not_not, ne_eq] at c1
    try simp only [Int.toNat_natCast, dflt_i, dflt_b, dflt_l, dflt_p, Int.toNat_zero, gt_iff_lt, ge_iff_le] at c1
    refine aw_seq ?_
    refine aw_reg _ (by kernel_rfl) rfl ?_
    iterate 3 refine stq (m := false) tabok rfl rfl (by (repeat' apply And.intro) <;> first | exact True.intro | rfl | omega | (simp only [inr, IntKind.bits, Int.toNat_natCast, dflt_i, dflt_b, dflt_l, dflt_p, Int.toNat_zero, gt_iff_lt, ge_iff_le, tnat_add, tnat_sub1, tnat_div32, tnat_mod32, ti3, ti4, ti34, ti36, ti38, ti44, ti53, ti80]; omega) | exact fun h => h | (intro hq; rw [hq]; rfl) | (simp [SV.cellsL, SV.cells] <;> omega) | (simp_all; done)) ?_
    refine ops_nil ?_
    refine aw_if rfl (fun c3 => absurd c3 Bool.false_ne_true) (fun c3 => ?_)
    refine aw_skip ?_
    refine aw_seq ?_
    refine aw_reg _ (by kernel_rfl) rfl ?_
    refine zst tabok rfl rfl rfl ?_
    refine ops_nil ?_
    refine aw_ret ?_
    -- leaf ret.1f
    refine ret_c ?_
    have h := pos_len c1
    exact fs_int (by unfold sgn; rw [if_neg (by omega)])
theorem icmp_ok (a b : Nat) (ha : Sm a) (hb : Sm b) : CS Try.prog 46 [intV a, intV b] (.int .i64 (cmpI a b)) := by
  have hsm := sgn_mul a b
  refine fn_c [4] Try.func46 Try.ntmps46 rfl rfl rfl rfl ?_
  refine aw_seq ?_
  refine aw_reg _ (by kernel_rfl) rfl ?_
  iterate 3 refine zst tabok rfl rfl rfl ?_
  refine ops_nil ?_
  refine aw_seq ?_
  refine aw_regD true _ (by kernel_rfl) (by kernel_rfl) (by kernel_rfl) rfl ?_
  refine sdq (m := false) tabok rfl rfl (by (repeat' apply And.intro) <;> first | exact True.intro | rfl | omega | (simp only [inr, IntKind.bits, Int.toNat_natCast, dflt_i, dflt_b, dflt_l, dflt_p, Int.toNat_zero, gt_iff_lt, ge_iff_le, tnat_add, tnat_sub1, tnat_div32, tnat_mod32, ti3, ti4, ti34, ti36, ti38, ti44, ti53, ti80]; omega) | exact fun h => h | (intro hq; rw [hq]; rfl) | (simp [SV.cellsL, SV.cells] <;> omega) | (simp_all; done)) ?_
  refine sdc (sign_ok a ha) rfl rfl rfl (by kernel_rfl) (.cons (by first | exact argw_same | exact argw_nil | exact argw_tt | exact argw_ff | exact argw_eq rfl) .nil) ?_
  refine sdq (m := false) tabok rfl rfl (by (repeat' apply And.intro) <;> first | exact True.intro | rfl | omega | (simp only [inr, IntKind.bits, Int.toNat_natCast, dflt_i, dflt_b, dflt_l, dflt_p, Int.toNat_zero, gt_iff_lt, ge_iff_le, tnat_add, tnat_sub1, tnat_div32, tnat_mod32, ti3, ti4, ti34, ti36, ti38, ti44, ti53, ti80]; omega) | exact fun h => h | (intro hq; rw [hq]; rfl) | (simp [SV.cellsL, SV.cells] <;> omega) | (simp_all; done)) ?_
  refine sdc (sign_ok b hb) rfl rfl rfl (by kernel_rfl) (.cons (by first | exact argw_same | exact argw_nil | exact argw_tt | exact argw_ff | exact argw_eq rfl) .nil) ?_
  iterate 2 refine zdt tabok rfl rfl rfl ?_
  refine opd_nil ?_
  refine aw_seq ?_
  refine aw_seq ?_
  refine aw_reg _ (by kernel_rfl) rfl ?_
  iterate 3 refine zst tabok rfl rfl rfl ?_
  refine ops_nil ?_
  refine aw_if rfl (fun c2 => ?_) (fun c2 => ?_)
  · try simp only [Bool.or_eq_true, Bool.and_eq_true, Bool.not_eq_true', Bool.not_eq_false', Bool.or_eq_false_iff, Bool.and_eq_false_imp, decide_eq_true_eq, decide_eq_false_iff_not, Bool.not_true, Bool.not_false, beq_iff_eq, Bool.not_eq_true, Bool.not_eq_false, Bool.true_eq_false, Bool.false_eq_true, not_or, Decidable.not_not, ne_eq] at c2
    try simp only [Int.toNat_natCast, dflt_i, dflt_b, dflt_l, dflt_p, Int.toNat_zero, gt_iff_lt, ge_iff_le] at c2
    refine aw_seq ?_
    refine aw_seq ?_
    refine aw_reg _ (by kernel_rfl) rfl ?_
    iterate 3 refine zst tabok rfl rfl rfl ?_
    refine ops_nil ?_
    refine aw_if rfl (fun c3 => ?_) (fun c3 => ?_)
    · try simp only [Bool.or_eq_true, Bool.and_eq_true, Bool.not_eq_true', Bool.not_eq_false', Bool.or_eq_false_iff, Bool.and_eq_false_imp, decide_eq_true_eq, decide_eq_false_iff_not, Bool.not_true, Bool.not_false, beq_iff_eq, Bool.not_eq_true, Bool.not_eq_false, Bool.true_eq_false, Bool.false_eq_true, not_or, Decidable.not_not, ne_eq] at c3
      try simp only [Int.toNat_natCast, dflt_i, dflt_b, dflt_l, dflt_p, Int.toNat_zero, gt_iff_lt, ge_iff_le] at c3
      refine aw_seq ?_
      refine aw_reg _ (by kernel_rfl) rfl ?_
      refine zst tabok rfl rfl rfl ?_
      refine ops_nil ?_
      refine aw_ret ?_
      -- leaf ret.2t.3t
      refine ret_c ?_
      exact fs_int (by unfold sgn at c2 c3; unfold cmpI; split at c3 <;> split at c3 <;> first | omega | (rw [if_pos (by omega)]))
    · try simp only [Bool.or_eq_true, Bool.and_eq_true, Bool.not_eq_true', Bool.not_eq_false', Bool.or_eq_false_iff, Bool.and_eq_false_imp, decide_eq_true_eq, decide_eq_false_iff_not, Bool.not_true, Bool.not_false, beq_iff_eq, Bool.not_eq_true, Bool.not_eq_false, Bool.true_eq_false, Bool.false_eq_true, not_or, Decidable.not_not, ne_eq] at c3
      try simp only [Int.toNat_natCast, dflt_i, dflt_b, dflt_l, dflt_p, Int.toNat_zero, gt_iff_lt, ge_iff_le] at c3
      refine aw_skip ?_
      refine aw_seq ?_
      refine aw_reg _ (by kernel_rfl) rfl ?_
      refine zst tabok rfl rfl rfl ?_
      refine ops_nil ?_
      refine aw_ret ?_
      -- leaf ret.2t.3f
      refine ret_c ?_
      exact fs_int (by unfold sgn at c2 c3; unfold cmpI; split at c3 <;> split at c3 <;> first | omega | (rw [if_neg (by omega), if_neg (by omega)]))
  · try simp only [Bool.or_eq_true, Bool.and_eq_true, Bool.not_eq_true', Bool.not_eq_false', Bool.or_eq_false_iff, Bool.and_eq_false_imp, decide_eq_true_eq, decide_eq_false_iff_not, Bool.not_true, Bool.not_false, beq_iff_eq, Bool.not_eq_true, Bool.not_eq_false, Bool.true_eq_false, Bool.false_eq_true, not_or, Decidable.not_not, ne_eq] at c2
    try simp only [Int.toNat_natCast, dflt_i, dflt_b, dflt_l, dflt_p, Int.toNat_zero, gt_iff_lt, ge_iff_le] at c2
    refine aw_skip ?_
    refine aw_seq ?_
    refine aw_reg _ (by kernel_rfl) rfl ?_
    iterate 5 refine stq (m := false) tabok rfl rfl (by (repeat' apply And.intro) <;> first | exact True.intro | rfl | omega | (simp only [inr, IntKind.bits, Int.toNat_natCast, dflt_i, dflt_b, dflt_l, dflt_p, Int.toNat_zero, gt_iff_lt, ge_iff_le, tnat_add, tnat_sub1, tnat_div32, tnat_mod32, ti3, ti4, ti34, ti36, ti38, ti44, ti53, ti80]; omega) | exact fun h => h | (intro hq; rw [hq]; rfl) | (simp [SV.cellsL, SV.cells] <;> omega) | (simp_all; done)) ?_
    refine sc (cmp_ok a b ha hb) rfl rfl (by kernel_rfl) rfl (by kernel_rfl) (.cons (by first | exact argw_same | exact argw_nil | exact argw_tt | exact argw_ff | exact argw_eq rfl) (.cons (by first | exact argw_same | exact argw_nil | exact argw_tt | exact argw_ff | exact argw_eq rfl) .nil)) ?_
    iterate 2 refine stq (m := false) tabok rfl rfl (by (repeat' apply And.intro) <;> first | exact True.intro | rfl | omega | (simp only [inr, IntKind.bits, Int.toNat_natCast, dflt_i, dflt_b, dflt_l, dflt_p, Int.toNat_zero, gt_iff_lt, ge_iff_le, tnat_add, tnat_sub1, tnat_div32, tnat_mod32, ti3, ti4, ti34, ti36, ti38, ti44, ti53, ti80]; omega) | exact fun h => h | (intro hq; rw [hq]; rfl) | (simp [SV.cellsL, SV.cells] <;> omega) | (simp_all; done)) ?_
    refine ops_nil ?_
    refine aw_ret ?_
    -- leaf ret.2f
    refine ret_c ?_
    exact fs_int (sgn_cmp (by omega))
theorem imul_ok (a b : Nat) (ha : Sm a) (hb : Sm b) (hab : Sm (a * b)) : CS Try.prog 47 [intV a, intV b] (intV (a * b)) := by
  refine fn_k (tab := tab) tabok [.cell 4 36] Try.func47 Try.ntmps47 rfl rfl rfl rfl ?_
  refine aw_seq ?_
  refine aw_reg _ (by kernel_rfl) rfl ?_
  iterate 3 refine zst tabok rfl rfl rfl ?_
  refine ops_nil ?_
  refine aw_seq ?_
  refine aw_regD true _ (by kernel_rfl) (by kernel_rfl) (by kernel_rfl) rfl ?_
  iterate 9 refine sdq (m := false) tabok rfl rfl (by (repeat' apply And.intro) <;> first | exact True.intro | rfl | omega | (simp only [inr, IntKind.bits, Int.toNat_natCast, dflt_i, dflt_b, dflt_l, dflt_p, Int.toNat_zero, gt_iff_lt, ge_iff_le, tnat_add, tnat_sub1, tnat_div32, tnat_mod32, ti3, ti4, ti34, ti36, ti38, ti44, ti53, ti80]; omega) | exact fun h => h | (intro hq; rw [hq]; rfl) | (simp [SV.cellsL, SV.cells] <;> omega) | (simp_all; done)) ?_
  refine sdc (mul_ok a b ha hb) rfl rfl rfl (by kernel_rfl) (.cons (by first | exact argw_same | exact argw_nil | exact argw_tt | exact argw_ff | exact argw_eq rfl) (.cons (by first | exact argw_same | exact argw_nil | exact argw_tt | exact argw_ff | exact argw_eq rfl) .nil)) ?_
  refine sdc (signed_ok (a * b) hab) rfl rfl rfl (by kernel_rfl) (.cons (by first | exact argw_same | exact argw_nil | exact argw_tt | exact argw_ff | exact argw_eq rfl) (.cons (by first | exact argw_same | exact argw_nil | exact argw_tt | exact argw_ff | exact argw_eq rfl) .nil)) ?_
  refine sdq (m := false) tabok rfl rfl (by (repeat' apply And.intro) <;> first | exact True.intro | rfl | omega | (simp only [inr, IntKind.bits, Int.toNat_natCast, dflt_i, dflt_b, dflt_l, dflt_p, Int.toNat_zero, gt_iff_lt, ge_iff_le, tnat_add, tnat_sub1, tnat_div32, tnat_mod32, ti3, ti4, ti34, ti36, ti38, ti44, ti53, ti80]; omega) | exact fun h => h | (intro hq; rw [hq]; rfl) | (simp [SV.cellsL, SV.cells] <;> omega) | (simp_all; done)) ?_
  refine opd_nil ?_
  refine aw_ret ?_
  -- leaf ret
  refine ret_k rfl (by (repeat' apply And.intro); all_goals first | exact True.intro | rfl | omega | (simp only [inr]; omega) | (simp only [IntKind.bits]; omega) | exact fun h => h | (intro hq; rw [hq]; rfl) | (simp only [Int.toNat_natCast, dflt_i, dflt_b, dflt_l, dflt_p, Int.toNat_zero, gt_iff_lt, ge_iff_le]; omega) | (simp only [ti3, ti4, ti34, ti36, ti38, ti44, ti53, ti80]; omega) | (simp [ti3, ti4, ti34, ti36, ti38, ti44, ti53, ti80]; omega) | (simp_all; done) | (simp [SV.cellsL, SV.cells]; done) | (simp [SV.cellsL, SV.cells]; omega) | (simp only [inr, Int.toNat_natCast, dflt_i, dflt_b, dflt_l, dflt_p, Int.toNat_zero, gt_iff_lt, ge_iff_le, tnat_add, tnat_sub1, tnat_div32, tnat_mod32]; omega)) ?_
  exact fs_aggs rfl rfl (.cons (fs_eq rfl rfl) (.cons (fs rfl) .nil))
theorem iadd_ok (a b : Nat) (ha : Sm a) (hb : Sm b) (hab : Sm (a + b)) : CS Try.prog 54 [intV a, intV b] (intV (a + b)) := by
  refine fn_k (tab := tab) tabok [.cell 4 36] Try.func54 Try.ntmps54 rfl rfl rfl rfl ?_
  refine aw_seq ?_
  refine aw_reg _ (by kernel_rfl) rfl ?_
  iterate 3 refine zst tabok rfl rfl rfl ?_
  refine ops_nil ?_
  refine aw_seq ?_
  refine aw_seq ?_
  refine aw_reg _ (by kernel_rfl) rfl ?_
  iterate 5 refine stq (m := false) tabok rfl rfl (by (repeat' apply And.intro) <;> first | exact True.intro | rfl | omega | (simp only [inr, IntKind.bits, Int.toNat_natCast, dflt_i, dflt_b, dflt_l, dflt_p, Int.toNat_zero, gt_iff_lt, ge_iff_le, tnat_add, tnat_sub1, tnat_div32, tnat_mod32, ti3, ti4, ti34, ti36, ti38, ti44, ti53, ti80]; omega) | exact fun h => h | (intro hq; rw [hq]; rfl) | (simp [SV.cellsL, SV.cells] <;> omega) | (simp_all; done)) ?_
  refine ops_nil ?_
  refine aw_if rfl (fun c1 => ?_) (fun c1 => absurd c1.symm Bool.false_ne_true)
  refine aw_seq ?_
  refine aw_regD true _ (by kernel_rfl) (by kernel_rfl) (by kernel_rfl) rfl ?_
  iterate 6 refine sdq (m := false) tabok rfl rfl (by (repeat' apply And.intro) <;> first | exact True.intro | rfl | omega | (simp only [inr, IntKind.bits, Int.toNat_natCast, dflt_i, dflt_b, dflt_l, dflt_p, Int.toNat_zero, gt_iff_lt, ge_iff_le, tnat_add, tnat_sub1, tnat_div32, tnat_mod32, ti3, ti4, ti34, ti36, ti38, ti44, ti53, ti80]; omega) | exact fun h => h | (intro hq; rw [hq]; rfl) | (simp [SV.cellsL, SV.cells] <;> omega) | (simp_all; done)) ?_
  refine sdc (add_ok a b ha hb) rfl rfl rfl (by kernel_rfl) (.cons (by first | exact argw_same | exact argw_nil | exact argw_tt | exact argw_ff | exact argw_eq rfl) (.cons (by first | exact argw_same | exact argw_nil | exact argw_tt | exact argw_ff | exact argw_eq rfl) .nil)) ?_
  refine sdc (signed_ok (a + b) hab) rfl rfl rfl (by kernel_rfl) (.cons (by first | exact argw_same | exact argw_nil | exact argw_tt | exact argw_ff | exact argw_eq rfl) (.cons (by first | exact argw_same | exact argw_nil | exact argw_tt | exact argw_ff | exact argw_eq rfl) .nil)) ?_
  refine sdq (m := false) tabok rfl rfl (by (repeat' apply And.intro) <;> first | exact True.intro | rfl | omega | (simp only [inr, IntKind.bits, Int.toNat_natCast, dflt_i, dflt_b, dflt_l, dflt_p, Int.toNat_zero, gt_iff_lt, ge_iff_le, tnat_add, tnat_sub1, tnat_div32, tnat_mod32, ti3, ti4, ti34, ti36, ti38, ti44, ti53, ti80]; omega) | exact fun h => h | (intro hq; rw [hq]; rfl) | (simp [SV.cellsL, SV.cells] <;> omega) | (simp_all; done)) ?_
  refine opd_nil ?_
  refine aw_ret ?_
  -- leaf ret
  refine ret_k rfl (by (repeat' apply And.intro); all_goals first | exact True.intro | rfl | omega | (simp only [inr]; omega) | (simp only [IntKind.bits]; omega) | exact fun h => h | (intro hq; rw [hq]; rfl) | (simp only [Int.toNat_natCast, dflt_i, dflt_b, dflt_l, dflt_p, Int.toNat_zero, gt_iff_lt, ge_iff_le]; omega) | (simp only [ti3, ti4, ti34, ti36, ti38, ti44, ti53, ti80]; omega) | (simp [ti3, ti4, ti34, ti36, ti38, ti44, ti53, ti80]; omega) | (simp_all; done) | (simp [SV.cellsL, SV.cells]; done) | (simp [SV.cellsL, SV.cells]; omega) | (simp only [inr, Int.toNat_natCast, dflt_i, dflt_b, dflt_l, dflt_p, Int.toNat_zero, gt_iff_lt, ge_iff_le, tnat_add, tnat_sub1, tnat_div32, tnat_mod32]; omega)) ?_
  exact fs_aggs rfl rfl (.cons (fs_eq rfl rfl) (.cons (fs rfl) .nil))
theorem iof_ok (n : Nat) (hn : n < 9223372036854775808) : CS Try.prog 51 [.int .i64 (n : Int)] (intV n) := by
  refine fn_k (tab := tab) tabok [.cell 2 36] Try.func51 Try.ntmps51 rfl rfl rfl rfl ?_
  refine aw_seq ?_
  refine aw_reg _ (by kernel_rfl) rfl ?_
  refine zst tabok rfl rfl rfl ?_
  refine ops_nil ?_
  refine aw_seq ?_
  refine aw_reg _ (by kernel_rfl) rfl ?_
  iterate 3 refine stq (m := false) tabok rfl rfl (by (repeat' apply And.intro) <;> first | exact True.intro | rfl | omega | (simp only [inr, IntKind.bits, Int.toNat_natCast, dflt_i, dflt_b, dflt_l, dflt_p, Int.toNat_zero, gt_iff_lt, ge_iff_le, tnat_add, tnat_sub1, tnat_div32, tnat_mod32, ti3, ti4, ti34, ti36, ti38, ti44, ti53, ti80]; omega) | exact fun h => h | (intro hq; rw [hq]; rfl) | (simp [SV.cellsL, SV.cells] <;> omega) | (simp_all; done)) ?_
  refine ops_nil ?_
  refine aw_seq ?_
  refine aw_seq ?_
  refine aw_reg _ (by kernel_rfl) rfl ?_
  iterate 2 refine zst tabok rfl rfl rfl ?_
  refine ops_nil ?_
  refine aw_if rfl (fun c2 => ?_) (fun c2 => ?_)
  · try simp only [Bool.or_eq_true, Bool.and_eq_true, Bool.not_eq_true', Bool.not_eq_false', Bool.or_eq_false_iff, Bool.and_eq_false_imp, decide_eq_true_eq, decide_eq_false_iff_not, Bool.not_true, Bool.not_false, beq_iff_eq, Bool.not_eq_true, Bool.not_eq_false, Bool.true_eq_false, Bool.false_eq_true, not_or, Decidable.not_not, ne_eq] at c2
    try simp only [Int.toNat_natCast, dflt_i, dflt_b, dflt_l, dflt_p, Int.toNat_zero, gt_iff_lt, ge_iff_le] at c2
    all_goals exfalso
    all_goals omega
  · try simp only [Bool.or_eq_true, Bool.and_eq_true, Bool.not_eq_true', Bool.not_eq_false', Bool.or_eq_false_iff, Bool.and_eq_false_imp, decide_eq_true_eq, decide_eq_false_iff_not, Bool.not_true, Bool.not_false, beq_iff_eq, Bool.not_eq_true, Bool.not_eq_false, Bool.true_eq_false, Bool.false_eq_true, not_or, Decidable.not_not, ne_eq] at c2
    try simp only [Int.toNat_natCast, dflt_i, dflt_b, dflt_l, dflt_p, Int.toNat_zero, gt_iff_lt, ge_iff_le] at c2
    refine aw_skip ?_
    refine aw_seq ?_
    refine aw_reg _ (by kernel_rfl) rfl ?_
    iterate 3 refine zst tabok rfl rfl rfl ?_
    refine sc (of_ok n (by omega)) rfl rfl (by kernel_rfl) rfl (by kernel_rfl) (.cons (by first | exact argw_same | exact argw_nil | exact argw_tt | exact argw_ff | exact argw_eq rfl) .nil) ?_
    refine sc (signed_ok n (Nat.le_trans (sm_small (by omega)) (by decide))) rfl rfl (by kernel_rfl) rfl (by kernel_rfl) (.cons (by first | exact argw_same | exact argw_nil | exact argw_tt | exact argw_ff | exact argw_eq rfl) (.cons (by first | exact argw_same | exact argw_nil | exact argw_tt | exact argw_ff | exact argw_eq rfl) .nil)) ?_
    refine stq (m := false) tabok rfl rfl (by (repeat' apply And.intro) <;> first | exact True.intro | rfl | omega | (simp only [inr, IntKind.bits, Int.toNat_natCast, dflt_i, dflt_b, dflt_l, dflt_p, Int.toNat_zero, gt_iff_lt, ge_iff_le, tnat_add, tnat_sub1, tnat_div32, tnat_mod32, ti3, ti4, ti34, ti36, ti38, ti44, ti53, ti80]; omega) | exact fun h => h | (intro hq; rw [hq]; rfl) | (simp [SV.cellsL, SV.cells] <;> omega) | (simp_all; done)) ?_
    refine ops_nil ?_
    refine aw_ret ?_
    -- leaf ret.2f
    refine ret_k rfl (by (repeat' apply And.intro); all_goals first | exact True.intro | rfl | omega | (simp only [inr]; omega) | (simp only [IntKind.bits]; omega) | exact fun h => h | (intro hq; rw [hq]; rfl) | (simp only [Int.toNat_natCast, dflt_i, dflt_b, dflt_l, dflt_p, Int.toNat_zero, gt_iff_lt, ge_iff_le]; omega) | (simp only [ti3, ti4, ti34, ti36, ti38, ti44, ti53, ti80]; omega) | (simp [ti3, ti4, ti34, ti36, ti38, ti44, ti53, ti80]; omega) | (simp_all; done) | (simp [SV.cellsL, SV.cells]; done) | (simp [SV.cellsL, SV.cells]; omega) | (simp only [inr, Int.toNat_natCast, dflt_i, dflt_b, dflt_l, dflt_p, Int.toNat_zero, gt_iff_lt, ge_iff_le, tnat_add, tnat_sub1, tnat_div32, tnat_mod32]; omega)) ?_
    exact fs_aggs rfl rfl (.cons (fs_eq rfl rfl) (.cons (fs rfl) .nil))
theorem whole_ok (a : Nat) : CS Try.prog 48 [.row TU32 (lim a)] (intV a) := by
  refine fn_k (tab := tab) tabok [.cell 2 36] Try.func48 Try.ntmps48 rfl rfl rfl rfl ?_
  refine aw_seq ?_
  refine aw_reg _ (by kernel_rfl) rfl ?_
  refine zst tabok rfl rfl rfl ?_
  refine ops_nil ?_
  refine aw_seq ?_
  refine aw_reg _ (by kernel_rfl) rfl ?_
  iterate 3 refine stq (m := false) tabok rfl rfl (by (repeat' apply And.intro) <;> first | exact True.intro | rfl | omega | (simp only [inr, IntKind.bits, Int.toNat_natCast, dflt_i, dflt_b, dflt_l, dflt_p, Int.toNat_zero, gt_iff_lt, ge_iff_le, tnat_add, tnat_sub1, tnat_div32, tnat_mod32, ti3, ti4, ti34, ti36, ti38, ti44, ti53, ti80]; omega) | exact fun h => h | (intro hq; rw [hq]; rfl) | (simp [SV.cellsL, SV.cells] <;> omega) | (simp_all; done)) ?_
  refine ops_nil ?_
  refine aw_ret ?_
  -- leaf ret
  refine ret_k rfl (by (repeat' apply And.intro); all_goals first | exact True.intro | rfl | omega | (simp only [inr]; omega) | (simp only [IntKind.bits]; omega) | exact fun h => h | (intro hq; rw [hq]; rfl) | (simp only [Int.toNat_natCast, dflt_i, dflt_b, dflt_l, dflt_p, Int.toNat_zero, gt_iff_lt, ge_iff_le]; omega) | (simp only [ti3, ti4, ti34, ti36, ti38, ti44, ti53, ti80]; omega) | (simp [ti3, ti4, ti34, ti36, ti38, ti44, ti53, ti80]; omega) | (simp_all; done) | (simp [SV.cellsL, SV.cells]; done) | (simp [SV.cellsL, SV.cells]; omega) | (simp only [inr, Int.toNat_natCast, dflt_i, dflt_b, dflt_l, dflt_p, Int.toNat_zero, gt_iff_lt, ge_iff_le, tnat_add, tnat_sub1, tnat_div32, tnat_mod32]; omega)) ?_
  exact fs_aggs rfl rfl (.cons (fs_eq rfl rfl) (.cons (fs rfl) .nil))
theorem quotient_ok (n d : Nat) (hn : Sm n) (hd : Sm d) : CS Try.prog 53 [intV n, .row TU32 (lim d)] (ratZ (nmN n d) (nmD n d)) := by
  refine fn_k (tab := tab) tabok [.cell 4 38] Try.func53 Try.ntmps53 rfl rfl rfl rfl ?_
  refine aw_seq ?_
  refine aw_reg _ (by kernel_rfl) rfl ?_
  iterate 2 refine zst tabok rfl rfl rfl ?_
  refine ops_nil ?_
  refine aw_seq ?_
  refine aw_reg _ (by kernel_rfl) rfl ?_
  refine stq (m := false) tabok rfl rfl (by (repeat' apply And.intro) <;> first | exact True.intro | rfl | omega | (simp only [inr, IntKind.bits, Int.toNat_natCast, dflt_i, dflt_b, dflt_l, dflt_p, Int.toNat_zero, gt_iff_lt, ge_iff_le, tnat_add, tnat_sub1, tnat_div32, tnat_mod32, ti3, ti4, ti34, ti36, ti38, ti44, ti53, ti80]; omega) | exact fun h => h | (intro hq; rw [hq]; rfl) | (simp [SV.cellsL, SV.cells] <;> omega) | (simp_all; done)) ?_
  refine sc (inorm_ok n hn) rfl rfl (by kernel_rfl) rfl (by kernel_rfl) (.cons (by first | exact argw_same | exact argw_nil | exact argw_tt | exact argw_ff | exact argw_eq rfl) .nil) ?_
  refine zst tabok rfl rfl rfl ?_
  refine sc (norm_ok d hd) rfl rfl (by kernel_rfl) rfl (by kernel_rfl) (.cons (by first | exact argw_same | exact argw_nil | exact argw_tt | exact argw_ff | exact argw_eq rfl) .nil) ?_
  iterate 2 refine stq (m := false) tabok rfl rfl (by (repeat' apply And.intro) <;> first | exact True.intro | rfl | omega | (simp only [inr, IntKind.bits, Int.toNat_natCast, dflt_i, dflt_b, dflt_l, dflt_p, Int.toNat_zero, gt_iff_lt, ge_iff_le, tnat_add, tnat_sub1, tnat_div32, tnat_mod32, ti3, ti4, ti34, ti36, ti38, ti44, ti53, ti80]; omega) | exact fun h => h | (intro hq; rw [hq]; rfl) | (simp [SV.cellsL, SV.cells] <;> omega) | (simp_all; done)) ?_
  refine ops_nil ?_
  refine aw_seq ?_
  refine aw_seq ?_
  refine aw_reg _ (by kernel_rfl) rfl ?_
  iterate 4 refine zst tabok rfl rfl rfl ?_
  iterate 4 refine stg (m := false) tabok rfl rfl rfl rfl rfl (by intro hg; have hg0 := hg; (try simp only [Bool.or_eq_true, Bool.and_eq_true, Bool.not_eq_true', Bool.not_eq_false', Bool.or_eq_false_iff, Bool.and_eq_false_imp, decide_eq_true_eq, decide_eq_false_iff_not, Bool.not_true, Bool.not_false, beq_iff_eq, Bool.not_eq_true, Bool.not_eq_false, Bool.true_eq_false, Bool.false_eq_true, not_or, Decidable.not_not, ne_eq] at hg); (try simp only [Int.toNat_natCast, dflt_i, dflt_b, dflt_l, dflt_p, Int.toNat_zero, gt_iff_lt, ge_iff_le] at hg); (repeat' apply And.intro); all_goals first | exact hg0 | exact True.intro | rfl | omega | (simp only [inr]; omega) | (simp only [IntKind.bits]; omega) | (simp only [Bool.or_eq_true, Bool.and_eq_true, Bool.not_eq_true', Bool.not_eq_false', Bool.or_eq_false_iff, Bool.and_eq_false_imp, decide_eq_true_eq, decide_eq_false_iff_not, Bool.not_true, Bool.not_false, beq_iff_eq, Bool.not_eq_true, Bool.not_eq_false, Bool.true_eq_false, Bool.false_eq_true, not_or, Decidable.not_not, ne_eq]; omega) | (simp only [inr, Int.toNat_natCast, dflt_i, dflt_b, dflt_l, dflt_p, Int.toNat_zero, gt_iff_lt, ge_iff_le]; omega) | (simp only [Int.toNat_natCast, dflt_i, dflt_b, dflt_l, dflt_p, Int.toNat_zero, gt_iff_lt, ge_iff_le]; omega) | (simp only [Bool.or_eq_true, Bool.and_eq_true, Bool.not_eq_true', Bool.not_eq_false', Bool.or_eq_false_iff, Bool.and_eq_false_imp, decide_eq_true_eq, decide_eq_false_iff_not, Bool.not_true, Bool.not_false, beq_iff_eq, Bool.not_eq_true, Bool.not_eq_false, Bool.true_eq_false, Bool.false_eq_true, not_or, Decidable.not_not, ne_eq] at hg0 ⊢; simp_all; done) | (simp_all; done) | (simp_all; omega)) ?_
  refine stq (m := false) tabok rfl rfl (by (repeat' apply And.intro) <;> first | exact True.intro | rfl | omega | (simp only [inr, IntKind.bits, Int.toNat_natCast, dflt_i, dflt_b, dflt_l, dflt_p, Int.toNat_zero, gt_iff_lt, ge_iff_le, tnat_add, tnat_sub1, tnat_div32, tnat_mod32, ti3, ti4, ti34, ti36, ti38, ti44, ti53, ti80]; omega) | exact fun h => h | (intro hq; rw [hq]; rfl) | (simp [SV.cellsL, SV.cells] <;> omega) | (simp_all; done)) ?_
  refine ops_nil ?_
  refine aw_if rfl (fun c2 => ?_) (fun c2 => ?_)
  · try simp only [Bool.or_eq_true, Bool.and_eq_true, Bool.not_eq_true', Bool.not_eq_false', Bool.or_eq_false_iff, Bool.and_eq_false_imp, decide_eq_true_eq, decide_eq_false_iff_not, Bool.not_true, Bool.not_false, beq_iff_eq, Bool.not_eq_true, Bool.not_eq_false, Bool.true_eq_false, Bool.false_eq_true, not_or, Decidable.not_not, ne_eq] at c2
    try simp only [Int.toNat_natCast, dflt_i, dflt_b, dflt_l, dflt_p, Int.toNat_zero, gt_iff_lt, ge_iff_le] at c2
    refine aw_seq ?_
    refine aw_reg _ (by kernel_rfl) rfl ?_
    refine sc (of_ok 1 (by decide)) rfl rfl (by kernel_rfl) rfl (by kernel_rfl) (.cons (by first | exact argw_same | exact argw_nil | exact argw_tt | exact argw_ff | exact argw_eq rfl) .nil) ?_
    iterate 2 refine stq (m := false) tabok rfl rfl (by (repeat' apply And.intro) <;> first | exact True.intro | rfl | omega | (simp only [inr, IntKind.bits, Int.toNat_natCast, dflt_i, dflt_b, dflt_l, dflt_p, Int.toNat_zero, gt_iff_lt, ge_iff_le, tnat_add, tnat_sub1, tnat_div32, tnat_mod32, ti3, ti4, ti34, ti36, ti38, ti44, ti53, ti80]; omega) | exact fun h => h | (intro hq; rw [hq]; rfl) | (simp [SV.cellsL, SV.cells] <;> omega) | (simp_all; done)) ?_
    refine ops_nil ?_
    refine aw_ret ?_
    -- leaf ret.2t
    refine ret_k rfl (by (repeat' apply And.intro); all_goals first | exact True.intro | rfl | omega | (simp only [inr]; omega) | (simp only [IntKind.bits]; omega) | exact fun h => h | (intro hq; rw [hq]; rfl) | (simp only [Int.toNat_natCast, dflt_i, dflt_b, dflt_l, dflt_p, Int.toNat_zero, gt_iff_lt, ge_iff_le]; omega) | (simp only [ti3, ti4, ti34, ti36, ti38, ti44, ti53, ti80]; omega) | (simp [ti3, ti4, ti34, ti36, ti38, ti44, ti53, ti80]; omega) | (simp_all; done) | (simp [SV.cellsL, SV.cells]; done) | (simp [SV.cellsL, SV.cells]; omega) | (simp only [inr, Int.toNat_natCast, dflt_i, dflt_b, dflt_l, dflt_p, Int.toNat_zero, gt_iff_lt, ge_iff_le, tnat_add, tnat_sub1, tnat_div32, tnat_mod32]; omega)) ?_
    have e : n = 0 ∨ d = 0 := by
      rcases c2 with h | h
      · exact .inr (lim_nil.1 (List.eq_nil_of_length_eq_zero (by omega)))
      · exact .inl (lim_nil.1 (List.eq_nil_of_length_eq_zero (by omega)))
    have e1 : nmN n d = 0 := by unfold nmN; rw [if_pos e]
    have e2 : nmD n d = 1 := by unfold nmD; rw [if_pos e]
    exact fs_aggs rfl rfl (.cons (fs_eq rfl rfl) (.cons (fs_nil (by rw [e1, lim_zero])) (.cons (fs_row (by rw [e2])) .nil)))
  · try simp only [Bool.or_eq_true, Bool.and_eq_true, Bool.not_eq_true', Bool.not_eq_false', Bool.or_eq_false_iff, Bool.and_eq_false_imp, decide_eq_true_eq, decide_eq_false_iff_not, Bool.not_true, Bool.not_false, beq_iff_eq, Bool.not_eq_true, Bool.not_eq_false, Bool.true_eq_false, Bool.false_eq_true, not_or, Decidable.not_not, ne_eq] at c2
    try simp only [Int.toNat_natCast, dflt_i, dflt_b, dflt_l, dflt_p, Int.toNat_zero, gt_iff_lt, ge_iff_le] at c2
    have hn0 := pos_len c2.2
    have hd0 := pos_len c2.1
    have hg0 : 0 < Nat.gcd n d := Nat.gcd_pos_of_pos_left _ hn0
    have hgs : Sm (Nat.gcd n d) := hn.le (Nat.gcd_le_left _ hn0)
    refine aw_skip ?_
    refine aw_seq ?_
    refine aw_reg _ (by kernel_rfl) rfl ?_
    iterate 3 refine stq (m := false) tabok rfl rfl (by (repeat' apply And.intro) <;> first | exact True.intro | rfl | omega | (simp only [inr, IntKind.bits, Int.toNat_natCast, dflt_i, dflt_b, dflt_l, dflt_p, Int.toNat_zero, gt_iff_lt, ge_iff_le, tnat_add, tnat_sub1, tnat_div32, tnat_mod32, ti3, ti4, ti34, ti36, ti38, ti44, ti53, ti80]; omega) | exact fun h => h | (intro hq; rw [hq]; rfl) | (simp [SV.cellsL, SV.cells] <;> omega) | (simp_all; done)) ?_
    refine sc (gcd_ok n d hn hd) rfl rfl (by kernel_rfl) rfl (by kernel_rfl) (.cons (by first | exact argw_same | exact argw_nil | exact argw_tt | exact argw_ff | exact argw_eq rfl) (.cons (by first | exact argw_same | exact argw_nil | exact argw_tt | exact argw_ff | exact argw_eq rfl) .nil)) ?_
    refine zst tabok rfl rfl rfl ?_
    refine ops_nil ?_
    refine aw_seq ?_
    refine aw_reg _ (by kernel_rfl) rfl ?_
    iterate 3 refine stq (m := false) tabok rfl rfl (by (repeat' apply And.intro) <;> first | exact True.intro | rfl | omega | (simp only [inr, IntKind.bits, Int.toNat_natCast, dflt_i, dflt_b, dflt_l, dflt_p, Int.toNat_zero, gt_iff_lt, ge_iff_le, tnat_add, tnat_sub1, tnat_div32, tnat_mod32, ti3, ti4, ti34, ti36, ti38, ti44, ti53, ti80]; omega) | exact fun h => h | (intro hq; rw [hq]; rfl) | (simp [SV.cellsL, SV.cells] <;> omega) | (simp_all; done)) ?_
    refine sc (divmod_ok n (Nat.gcd n d) hn hgs hg0) rfl rfl (by kernel_rfl) rfl (by kernel_rfl) (.cons (by first | exact argw_same | exact argw_nil | exact argw_tt | exact argw_ff | exact argw_eq rfl) (.cons (by first | exact argw_same | exact argw_nil | exact argw_tt | exact argw_ff | exact argw_eq rfl) .nil)) ?_
    iterate 7 refine zst tabok rfl rfl rfl ?_
    refine ops_nil ?_
    refine aw_seq ?_
    refine aw_reg _ (by kernel_rfl) rfl ?_
    iterate 2 refine zst tabok rfl rfl rfl ?_
    refine sc (divmod_ok d (Nat.gcd n d) hd hgs hg0) rfl rfl (by kernel_rfl) rfl (by kernel_rfl) (.cons (by first | exact argw_same | exact argw_nil | exact argw_tt | exact argw_ff | exact argw_eq rfl) (.cons (by first | exact argw_same | exact argw_nil | exact argw_tt | exact argw_ff | exact argw_eq rfl) .nil)) ?_
    iterate 7 refine zst tabok rfl rfl rfl ?_
    refine ops_nil ?_
    refine aw_seq ?_
    refine aw_reg _ (by kernel_rfl) rfl ?_
    iterate 7 refine stq (m := false) tabok rfl rfl (by (repeat' apply And.intro) <;> first | exact True.intro | rfl | omega | (simp only [inr, IntKind.bits, Int.toNat_natCast, dflt_i, dflt_b, dflt_l, dflt_p, Int.toNat_zero, gt_iff_lt, ge_iff_le, tnat_add, tnat_sub1, tnat_div32, tnat_mod32, ti3, ti4, ti34, ti36, ti38, ti44, ti53, ti80]; omega) | exact fun h => h | (intro hq; rw [hq]; rfl) | (simp [SV.cellsL, SV.cells] <;> omega) | (simp_all; done)) ?_
    refine ops_nil ?_
    refine aw_ret ?_
    -- leaf ret.2f
    refine ret_k rfl (by (repeat' apply And.intro); all_goals first | exact True.intro | rfl | omega | (simp only [inr]; omega) | (simp only [IntKind.bits]; omega) | exact fun h => h | (intro hq; rw [hq]; rfl) | (simp only [Int.toNat_natCast, dflt_i, dflt_b, dflt_l, dflt_p, Int.toNat_zero, gt_iff_lt, ge_iff_le]; omega) | (simp only [ti3, ti4, ti34, ti36, ti38, ti44, ti53, ti80]; omega) | (simp [ti3, ti4, ti34, ti36, ti38, ti44, ti53, ti80]; omega) | (simp_all; done) | (simp [SV.cellsL, SV.cells]; done) | (simp [SV.cellsL, SV.cells]; omega) | (simp only [inr, Int.toNat_natCast, dflt_i, dflt_b, dflt_l, dflt_p, Int.toNat_zero, gt_iff_lt, ge_iff_le, tnat_add, tnat_sub1, tnat_div32, tnat_mod32]; omega)) ?_
    have e : ¬ (n = 0 ∨ d = 0) := by omega
    exact fs_aggs rfl rfl (.cons (fs_eq rfl rfl) (.cons (fs_row (by unfold nmN; rw [if_neg e])) (.cons (fs_row (by unfold nmD; rw [if_neg e])) .nil)))
end Go.Sim
end
