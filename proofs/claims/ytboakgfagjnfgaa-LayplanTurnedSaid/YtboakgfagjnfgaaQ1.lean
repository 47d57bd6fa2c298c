/- A part of the proof: the walks of this law's functions, and plain laws. -/
import Derived.Test.YtboakgfagjnfgaaSimAK
import Derived.KernelRfl
import Derived.Test.YtboakgfagjnfgaaProg
section
set_option autoImplicit false
set_option maxRecDepth 4000
namespace Go.Sim
open Go Go.Proofs
def ti1 : TI := ⟨.fn, 1, [.cv .nilfn], 8⟩
theorem tc1 : checkT Try.prog 1 ti1 := ⟨by kernel_rfl, by kernel_rfl, by kernel_rfl, by kernel_rfl⟩
def ti2 : TI := ⟨.int .i64, 1, [.int .i64 0], 8⟩
theorem tc2 : checkT Try.prog 2 ti2 := ⟨by kernel_rfl, by kernel_rfl, by kernel_rfl, by kernel_rfl⟩
def ti3 : TI := ⟨.int .i64, 1, [.int .i64 0], 8⟩
theorem tc3 : checkT Try.prog 3 ti3 := ⟨by kernel_rfl, by kernel_rfl, by kernel_rfl, by kernel_rfl⟩
def ti4 : TI := ⟨.bool, 1, [.ff], 1⟩
theorem tc4 : checkT Try.prog 4 ti4 := ⟨by kernel_rfl, by kernel_rfl, by kernel_rfl, by kernel_rfl⟩
def ti5 : TI := ⟨.int .u8, 1, [.int .u8 0], 1⟩
theorem tc5 : checkT Try.prog 5 ti5 := ⟨by kernel_rfl, by kernel_rfl, by kernel_rfl, by kernel_rfl⟩
def ti6 : TI := ⟨.int .u8, 1, [.int .u8 0], 1⟩
theorem tc6 : checkT Try.prog 6 ti6 := ⟨by kernel_rfl, by kernel_rfl, by kernel_rfl, by kernel_rfl⟩
def ti7 : TI := ⟨.struct [(2, 0), (3, 1), (4, 2), (6, 3)], 4, [.int .i64 0, .int .i64 0, .ff, .int .u8 0], 24⟩
theorem tc7 : checkT Try.prog 7 ti7 := ⟨by kernel_rfl, by kernel_rfl, by kernel_rfl, by kernel_rfl⟩
def ti8 : TI := ⟨.struct [(2, 0), (3, 1), (4, 2), (6, 3)], 4, [.int .i64 0, .int .i64 0, .ff, .int .u8 0], 24⟩
theorem tc8 : checkT Try.prog 8 ti8 := ⟨by kernel_rfl, by kernel_rfl, by kernel_rfl, by kernel_rfl⟩
def ti9 : TI := ⟨.str, 1, [.str ByteArray.empty], 16⟩
theorem tc9 : checkT Try.prog 9 ti9 := ⟨by kernel_rfl, by kernel_rfl, by kernel_rfl, by kernel_rfl⟩
def ti22 : TI := ⟨.slice 3, 1, [.cv .nilsl], 24⟩
theorem tc22 : checkT Try.prog 22 ti22 := ⟨by kernel_rfl, by kernel_rfl, by kernel_rfl, by kernel_rfl⟩
def ti24 : TI := ⟨.struct [(22, 0), (3, 1), (3, 2)], 3, [.cv .nilsl, .int .i64 0, .int .i64 0], 40⟩
theorem tc24 : checkT Try.prog 24 ti24 := ⟨by kernel_rfl, by kernel_rfl, by kernel_rfl, by kernel_rfl⟩
def ti25 : TI := ⟨.slice 41, 1, [.cv .nilsl], 24⟩
theorem tc25 : checkT Try.prog 25 ti25 := ⟨by kernel_rfl, by kernel_rfl, by kernel_rfl, by kernel_rfl⟩
def ti28 : TI := ⟨.int .i64, 1, [.int .i64 0], 8⟩
theorem tc28 : checkT Try.prog 28 ti28 := ⟨by kernel_rfl, by kernel_rfl, by kernel_rfl, by kernel_rfl⟩
def ti41 : TI := ⟨.struct [(22, 0), (3, 1)], 2, [.cv .nilsl, .int .i64 0], 32⟩
theorem tc41 : checkT Try.prog 41 ti41 := ⟨by kernel_rfl, by kernel_rfl, by kernel_rfl, by kernel_rfl⟩
def ti46 : TI := ⟨.ptr 50, 1, [.cv .nilptr], 8⟩
theorem tc46 : checkT Try.prog 46 ti46 := ⟨by kernel_rfl, by kernel_rfl, by kernel_rfl, by kernel_rfl⟩
def ti47 : TI := ⟨.arr 6 3, 6, [.arr .i64 6 (fun _ => 0)], 48⟩
theorem tc47 : checkT Try.prog 47 ti47 := ⟨by kernel_rfl, by kernel_rfl, by kernel_rfl, by kernel_rfl⟩
def ti48 : TI := ⟨.arr 12 3, 12, [.arr .i64 12 (fun _ => 0)], 96⟩
theorem tc48 : checkT Try.prog 48 ti48 := ⟨by kernel_rfl, by kernel_rfl, by kernel_rfl, by kernel_rfl⟩
def ti50 : TI := ⟨.struct [(25, 0), (22, 1), (3, 2), (3, 3), (3, 4), (47, 5), (48, 11), (3, 23), (22, 24), (3, 25)], 26, [.cv .nilsl, .cv .nilsl, .int .i64 0, .int .i64 0, .int .i64 0, .arr .i64 6 (fun _ => 0), .arr .i64 12 (fun _ => 0), .int .i64 0, .cv .nilsl, .int .i64 0], 256⟩
theorem tc50 : checkT Try.prog 50 ti50 := ⟨by kernel_rfl, by kernel_rfl, by kernel_rfl, by kernel_rfl⟩
def ti53 : TI := ⟨.fn, 1, [.cv .nilfn], 8⟩
theorem tc53 : checkT Try.prog 53 ti53 := ⟨by kernel_rfl, by kernel_rfl, by kernel_rfl, by kernel_rfl⟩
def ti55 : TI := ⟨.fn, 1, [.cv .nilfn], 8⟩
theorem tc55 : checkT Try.prog 55 ti55 := ⟨by kernel_rfl, by kernel_rfl, by kernel_rfl, by kernel_rfl⟩
def tab : Tab := [(1, ti1), (2, ti2), (3, ti3), (4, ti4), (5, ti5), (6, ti6), (7, ti7), (8, ti8), (9, ti9), (22, ti22), (24, ti24), (25, ti25), (28, ti28), (41, ti41), (46, ti46), (47, ti47), (48, ti48), (50, ti50), (53, ti53), (55, ti55)]
theorem tabok : TabOK Try.prog tab := tabOK_cons tc1 (tabOK_cons tc2 (tabOK_cons tc3 (tabOK_cons tc4 (tabOK_cons tc5 (tabOK_cons tc6 (tabOK_cons tc7 (tabOK_cons tc8 (tabOK_cons tc9 (tabOK_cons tc22 (tabOK_cons tc24 (tabOK_cons tc25 (tabOK_cons tc28 (tabOK_cons tc41 (tabOK_cons tc46 (tabOK_cons tc47 (tabOK_cons tc48 (tabOK_cons tc50 (tabOK_cons tc53 (tabOK_cons tc55 (tabOK_nil))))))))))))))))))))
end Go.Sim
end
section
namespace Go.Sim
open Go Go.Proofs
set_option maxRecDepth 4000
set_option autoImplicit false
set_option linter.unusedSimpArgs false
set_option linter.unusedVariables false
abbrev TI64 : Ty := .i .i64
abbrev TMix : Ty := .p (.l TI64) TI64
abbrev Mix := List Int × Int
abbrev mixS (m : Mix) : SV := .agg [.row TI64 m.1, .int .i64 m.2]
def sizesS (m : List Mix) : Nat := (m.getD 0 ([], 0)).1.length
def okN (n : Int) : Bool := decide (0 ≤ n) && decide (n ≤ 6)
def posN (n : Int) : Bool := decide (n > 0)
def validS (m : Mix) : Bool := m.1.all okN && (m.1.any posN && decide (m.2 ≥ 1) && decide (m.2 ≤ 1048576))
def longM (m : Mix) : Bool := decide (((m.1.length : Nat) : Int) > 12)
/-- Lengths that need no second thought. -/
def Big (n : Nat) : Prop := n ≤ 4611686018427387904
def BigM (m : List Mix) : Prop := Big m.length ∧ ∀ i, i < m.length → Big (m.getD i ([], 0)).1.length
theorem sizes_ok (m : List Mix) : CS Try.prog 20 [.row TMix m] (.int .i64 (sizesS m : Nat)) := by
  refine fn_c [2] Try.func20 Try.ntmps20 rfl rfl rfl rfl ?_
  refine aw_seq ?_
  refine aw_reg _ (by kernel_rfl) rfl ?_
  refine st (m := false) tabok rfl rfl rfl (by (repeat' apply And.intro); all_goals first | exact True.intro | rfl | omega | (simp only [inr]; omega) | (simp only [IntKind.bits]; omega) | exact fun h => h | (intro hq; rw [hq]; rfl) | (simp only [Int.toNat_natCast, dflt_i, dflt_b, dflt_l, dflt_p, Int.toNat_zero, gt_iff_lt, ge_iff_le]; omega) | (simp only [ti3, ti4, ti22, ti41]; omega) | (simp [ti3, ti4, ti22, ti41]; omega) | (simp_all; done) | (simp [SV.cellsL, SV.cells]; done) | (simp [SV.cellsL, SV.cells]; omega)) ?_
  refine ops_nil ?_
  refine aw_seq ?_
  refine aw_seq ?_
  refine aw_reg _ (by kernel_rfl) rfl ?_
  iterate 3 refine st (m := false) tabok rfl rfl rfl (by (repeat' apply And.intro); all_goals first | exact True.intro | rfl | omega | (simp only [inr]; omega) | (simp only [IntKind.bits]; omega) | exact fun h => h | (intro hq; rw [hq]; rfl) | (simp only [Int.toNat_natCast, dflt_i, dflt_b, dflt_l, dflt_p, Int.toNat_zero, gt_iff_lt, ge_iff_le]; omega) | (simp only [ti3, ti4, ti22, ti41]; omega) | (simp [ti3, ti4, ti22, ti41]; omega) | (simp_all; done) | (simp [SV.cellsL, SV.cells]; done) | (simp [SV.cellsL, SV.cells]; omega)) ?_
  refine ops_nil ?_
  refine aw_if rfl (fun c1 => ?_) (fun c1 => ?_)
  · try simp only [Bool.or_eq_true, Bool.and_eq_true, Bool.not_eq_true', Bool.not_eq_false', Bool.or_eq_false_iff, Bool.and_eq_false_imp, decide_eq_true_eq, decide_eq_false_iff_not, Bool.not_true, Bool.not_false, beq_iff_eq, Bool.not_eq_true, Bool.not_eq_false, Bool.true_eq_false, Bool.false_eq_true, not_or, Decidable.not_not, ne_eq] at c1
    try simp only [Int.toNat_natCast, dflt_i, dflt_b, dflt_l, dflt_p, Int.toNat_zero, gt_iff_lt, ge_iff_le] at c1
    refine aw_seq ?_
    refine aw_reg _ (by kernel_rfl) rfl ?_
    refine st (m := false) tabok rfl rfl rfl (by (repeat' apply And.intro); all_goals first | exact True.intro | rfl | omega | (simp only [inr]; omega) | (simp only [IntKind.bits]; omega) | exact fun h => h | (intro hq; rw [hq]; rfl) | (simp only [Int.toNat_natCast, dflt_i, dflt_b, dflt_l, dflt_p, Int.toNat_zero, gt_iff_lt, ge_iff_le]; omega) | (simp only [ti3, ti4, ti22, ti41]; omega) | (simp [ti3, ti4, ti22, ti41]; omega) | (simp_all; done) | (simp [SV.cellsL, SV.cells]; done) | (simp [SV.cellsL, SV.cells]; omega)) ?_
    refine ops_nil ?_
    refine aw_ret ?_
    -- leaf ret.1t
    refine ret_c ?_
    have : m = [] := List.eq_nil_of_length_eq_zero (by omega)
    subst this
    exact fs_int rfl
  · try simp only [Bool.or_eq_true, Bool.and_eq_true, Bool.not_eq_true', Bool.not_eq_false', Bool.or_eq_false_iff, Bool.and_eq_false_imp, decide_eq_true_eq, decide_eq_false_iff_not, Bool.not_true, Bool.not_false, beq_iff_eq, Bool.not_eq_true, Bool.not_eq_false, Bool.true_eq_false, Bool.false_eq_true, not_or, Decidable.not_not, ne_eq] at c1
    try simp only [Int.toNat_natCast, dflt_i, dflt_b, dflt_l, dflt_p, Int.toNat_zero, gt_iff_lt, ge_iff_le] at c1
    refine aw_skip ?_
    refine aw_seq ?_
    refine aw_reg _ (by kernel_rfl) rfl ?_
    iterate 6 refine st (m := false) tabok rfl rfl rfl (by (repeat' apply And.intro); all_goals first | exact True.intro | rfl | omega | (simp only [inr]; omega) | (simp only [IntKind.bits]; omega) | exact fun h => h | (intro hq; rw [hq]; rfl) | (simp only [Int.toNat_natCast, dflt_i, dflt_b, dflt_l, dflt_p, Int.toNat_zero, gt_iff_lt, ge_iff_le]; omega) | (simp only [ti3, ti4, ti22, ti41]; omega) | (simp [ti3, ti4, ti22, ti41]; omega) | (simp_all; done) | (simp [SV.cellsL, SV.cells]; done) | (simp [SV.cellsL, SV.cells]; omega)) ?_
    refine ops_nil ?_
    refine aw_ret ?_
    -- leaf ret.1f
    refine ret_c ?_
    exact fs_int rfl
theorem valid_ok (m : Mix) (hm : Big m.1.length) : CS Try.prog 26 [mixS m] (.bool (validS m)) := by
  unfold Big at hm
  refine fn_c [2] Try.func26 Try.ntmps26 rfl rfl rfl rfl ?_
  refine aw_seq ?_
  refine aw_reg _ (by kernel_rfl) rfl ?_
  iterate 2 refine st (m := false) tabok rfl rfl rfl (by (repeat' apply And.intro); all_goals first | exact True.intro | rfl | omega | (simp only [inr]; omega) | (simp only [IntKind.bits]; omega) | exact fun h => h | (intro hq; rw [hq]; rfl) | (simp only [Int.toNat_natCast, dflt_i, dflt_b, dflt_l, dflt_p, Int.toNat_zero, gt_iff_lt, ge_iff_le]; omega) | (simp only [ti3, ti4, ti22, ti41]; omega) | (simp [ti3, ti4, ti22, ti41]; omega) | (simp_all; done) | (simp [SV.cellsL, SV.cells]; done) | (simp [SV.cellsL, SV.cells]; omega)) ?_
  refine ops_nil ?_
  refine aw_seq ?_
  refine aw_reg _ (by kernel_rfl) rfl ?_
  refine st (m := false) tabok rfl rfl rfl (by (repeat' apply And.intro); all_goals first | exact True.intro | rfl | omega | (simp only [inr]; omega) | (simp only [IntKind.bits]; omega) | exact fun h => h | (intro hq; rw [hq]; rfl) | (simp only [Int.toNat_natCast, dflt_i, dflt_b, dflt_l, dflt_p, Int.toNat_zero, gt_iff_lt, ge_iff_le]; omega) | (simp only [ti3, ti4, ti22, ti41]; omega) | (simp [ti3, ti4, ti22, ti41]; omega) | (simp_all; done) | (simp [SV.cellsL, SV.cells]; done) | (simp [SV.cellsL, SV.cells]; omega)) ?_
  refine ops_nil ?_
  refine aw_seq ?_
  refine aw_seq ?_
  refine aw_reg _ (by kernel_rfl) rfl ?_
  iterate 4 refine st (m := false) tabok rfl rfl rfl (by (repeat' apply And.intro); all_goals first | exact True.intro | rfl | omega | (simp only [inr]; omega) | (simp only [IntKind.bits]; omega) | exact fun h => h | (intro hq; rw [hq]; rfl) | (simp only [Int.toNat_natCast, dflt_i, dflt_b, dflt_l, dflt_p, Int.toNat_zero, gt_iff_lt, ge_iff_le]; omega) | (simp only [ti3, ti4, ti22, ti41]; omega) | (simp [ti3, ti4, ti22, ti41]; omega) | (simp_all; done) | (simp [SV.cellsL, SV.cells]; done) | (simp [SV.cellsL, SV.cells]; omega)) ?_
  refine ops_nil ?_
  refine aw_block ?_
  refine aw_loop (X := (Nat)) (fun (i : Nat) => outT (look [(1, .ptr 0 0 0), (3, .bool ((m.1.take i).any posN)), (7, .row TI64 m.1), (8, .int .i64 m.1.length), (9, .int .i64 i)])) (fun (i : Nat) => outS [.obj 0 41 0 [.row TI64 m.1, .int .i64 m.2]]) (fun (i : Nat) => (i ≤ m.1.length) ∧ ((m.1.take i).all okN = true)) (fun (i : Nat) => m.1.length - i) (0) ?_ ?_ ?_
  -- leaf L0:entry
  · exact goes_to (tm := _) (st := _) [true] rfl rfl ⟨(by first | rfl | exact q_lst (by simp) | exact q_grow (by simp)), True.intro⟩ ⟨(by first | exact sk rfl rfl | exact sk (q_int (by omega)) rfl | exact sk (q_bool (by simp)) rfl | exact sk (q_view rfl rfl rfl (by omega)) rfl | exact sk (q_gview rfl (by simp)) rfl | exact sk (q_nil rfl) rfl | exact sk (q_row (by simp)) rfl | exact sk_g rfl rfl rfl rfl | exact sk_v rfl rfl rfl rfl rfl | exact sk_n rfl), (by first | exact sk rfl rfl | exact sk (q_int (by omega)) rfl | exact sk (q_bool (by simp)) rfl | exact sk (q_view rfl rfl rfl (by omega)) rfl | exact sk (q_gview rfl (by simp)) rfl | exact sk (q_nil rfl) rfl | exact sk (q_row (by simp)) rfl | exact sk_g rfl rfl rfl rfl | exact sk_v rfl rfl rfl rfl rfl | exact sk_n rfl), (by first | exact sk rfl rfl | exact sk (q_int (by omega)) rfl | exact sk (q_bool (by simp)) rfl | exact sk (q_view rfl rfl rfl (by omega)) rfl | exact sk (q_gview rfl (by simp)) rfl | exact sk (q_nil rfl) rfl | exact sk (q_row (by simp)) rfl | exact sk_g rfl rfl rfl rfl | exact sk_v rfl rfl rfl rfl rfl | exact sk_n rfl), (by first | exact sk rfl rfl | exact sk (q_int (by omega)) rfl | exact sk (q_bool (by simp)) rfl | exact sk (q_view rfl rfl rfl (by omega)) rfl | exact sk (q_gview rfl (by simp)) rfl | exact sk (q_nil rfl) rfl | exact sk (q_row (by simp)) rfl | exact sk_g rfl rfl rfl rfl | exact sk_v rfl rfl rfl rfl rfl | exact sk_n rfl), (by first | exact sk rfl rfl | exact sk (q_int (by omega)) rfl | exact sk (q_bool (by simp)) rfl | exact sk (q_view rfl rfl rfl (by omega)) rfl | exact sk (q_gview rfl (by simp)) rfl | exact sk (q_nil rfl) rfl | exact sk (q_row (by simp)) rfl | exact sk_g rfl rfl rfl rfl | exact sk_v rfl rfl rfl rfl rfl | exact sk_n rfl), True.intro⟩
  · refine ⟨?_, ?_⟩ <;> first | omega | assumption | (simp; done) | skip
  · skip
    rintro i ⟨hi, ha⟩
    change awpB _ _ _ _ _ (outT (look [(1, .ptr 0 0 0), (3, .bool ((m.1.take i).any posN)), (7, .row TI64 m.1), (8, .int .i64 m.1.length), (9, .int .i64 i)])) (outS [.obj 0 41 0 [.row TI64 m.1, .int .i64 m.2]])
    refine aw_seq ?_
    refine aw_reg _ (by kernel_rfl) rfl ?_
    refine st (m := false) tabok rfl rfl rfl (by (repeat' apply And.intro); all_goals first | exact True.intro | rfl | omega | (simp only [inr]; omega) | (simp only [IntKind.bits]; omega) | exact fun h => h | (intro hq; rw [hq]; rfl) | (simp only [Int.toNat_natCast, dflt_i, dflt_b, dflt_l, dflt_p, Int.toNat_zero, gt_iff_lt, ge_iff_le]; omega) | (simp only [ti3, ti4, ti22, ti41]; omega) | (simp [ti3, ti4, ti22, ti41]; omega) | (simp_all; done) | (simp [SV.cellsL, SV.cells]; done) | (simp [SV.cellsL, SV.cells]; omega)) ?_
    refine ops_nil ?_
    refine aw_seq ?_
    refine aw_if rfl (fun c3 => ?_) (fun c3 => ?_)
    · try simp only [Bool.or_eq_true, Bool.and_eq_true, Bool.not_eq_true', Bool.not_eq_false', Bool.or_eq_false_iff, Bool.and_eq_false_imp, decide_eq_true_eq, decide_eq_false_iff_not, Bool.not_true, Bool.not_false, beq_iff_eq, Bool.not_eq_true, Bool.not_eq_false, Bool.true_eq_false, Bool.false_eq_true, not_or, Decidable.not_not, ne_eq] at c3
      try simp only [Int.toNat_natCast, dflt_i, dflt_b, dflt_l, dflt_p, Int.toNat_zero, gt_iff_lt, ge_iff_le] at c3
      refine aw_skip ?_
      refine aw_seq ?_
      refine aw_block ?_
      refine aw_seq ?_
      refine aw_reg _ (by kernel_rfl) rfl ?_
      iterate 3 refine st (m := false) tabok rfl rfl rfl (by (repeat' apply And.intro); all_goals first | exact True.intro | rfl | omega | (simp only [inr]; omega) | (simp only [IntKind.bits]; omega) | exact fun h => h | (intro hq; rw [hq]; rfl) | (simp only [Int.toNat_natCast, dflt_i, dflt_b, dflt_l, dflt_p, Int.toNat_zero, gt_iff_lt, ge_iff_le]; omega) | (simp only [ti3, ti4, ti22, ti41]; omega) | (simp [ti3, ti4, ti22, ti41]; omega) | (simp_all; done) | (simp [SV.cellsL, SV.cells]; done) | (simp [SV.cellsL, SV.cells]; omega)) ?_
      refine ops_nil ?_
      refine aw_seq ?_
      refine aw_seq ?_
      refine aw_reg _ (by kernel_rfl) rfl ?_
      iterate 3 refine st (m := false) tabok rfl rfl rfl (by (repeat' apply And.intro); all_goals first | exact True.intro | rfl | omega | (simp only [inr]; omega) | (simp only [IntKind.bits]; omega) | exact fun h => h | (intro hq; rw [hq]; rfl) | (simp only [Int.toNat_natCast, dflt_i, dflt_b, dflt_l, dflt_p, Int.toNat_zero, gt_iff_lt, ge_iff_le]; omega) | (simp only [ti3, ti4, ti22, ti41]; omega) | (simp [ti3, ti4, ti22, ti41]; omega) | (simp_all; done) | (simp [SV.cellsL, SV.cells]; done) | (simp [SV.cellsL, SV.cells]; omega)) ?_
      iterate 2 refine stg (m := false) tabok rfl rfl rfl rfl rfl (by intro hg; have hg0 := hg; (try simp only [Bool.or_eq_true, Bool.and_eq_true, Bool.not_eq_true', Bool.not_eq_false', Bool.or_eq_false_iff, Bool.and_eq_false_imp, decide_eq_true_eq, decide_eq_false_iff_not, Bool.not_true, Bool.not_false, beq_iff_eq, Bool.not_eq_true, Bool.not_eq_false, Bool.true_eq_false, Bool.false_eq_true, not_or, Decidable.not_not, ne_eq] at hg); (try simp only [Int.toNat_natCast, dflt_i, dflt_b, dflt_l, dflt_p, Int.toNat_zero, gt_iff_lt, ge_iff_le] at hg); (repeat' apply And.intro); all_goals first | exact hg0 | exact True.intro | rfl | omega | (simp only [inr]; omega) | (simp only [IntKind.bits]; omega) | (simp only [Bool.or_eq_true, Bool.and_eq_true, Bool.not_eq_true', Bool.not_eq_false', Bool.or_eq_false_iff, Bool.and_eq_false_imp, decide_eq_true_eq, decide_eq_false_iff_not, Bool.not_true, Bool.not_false, beq_iff_eq, Bool.not_eq_true, Bool.not_eq_false, Bool.true_eq_false, Bool.false_eq_true, not_or, Decidable.not_not, ne_eq]; omega) | (simp only [inr, Int.toNat_natCast, dflt_i, dflt_b, dflt_l, dflt_p, Int.toNat_zero, gt_iff_lt, ge_iff_le]; omega) | (simp only [Int.toNat_natCast, dflt_i, dflt_b, dflt_l, dflt_p, Int.toNat_zero, gt_iff_lt, ge_iff_le]; omega) | (simp only [Bool.or_eq_true, Bool.and_eq_true, Bool.not_eq_true', Bool.not_eq_false', Bool.or_eq_false_iff, Bool.and_eq_false_imp, decide_eq_true_eq, decide_eq_false_iff_not, Bool.not_true, Bool.not_false, beq_iff_eq, Bool.not_eq_true, Bool.not_eq_false, Bool.true_eq_false, Bool.false_eq_true, not_or, Decidable.not_not, ne_eq] at hg0 ⊢; simp_all; done) | (simp_all; done) | (simp_all; omega)) ?_
      refine st (m := false) tabok rfl rfl rfl (by (repeat' apply And.intro); all_goals first | exact True.intro | rfl | omega | (simp only [inr]; omega) | (simp only [IntKind.bits]; omega) | exact fun h => h | (intro hq; rw [hq]; rfl) | (simp only [Int.toNat_natCast, dflt_i, dflt_b, dflt_l, dflt_p, Int.toNat_zero, gt_iff_lt, ge_iff_le]; omega) | (simp only [ti3, ti4, ti22, ti41]; omega) | (simp [ti3, ti4, ti22, ti41]; omega) | (simp_all; done) | (simp [SV.cellsL, SV.cells]; done) | (simp [SV.cellsL, SV.cells]; omega)) ?_
      refine ops_nil ?_
      refine aw_if rfl (fun c5 => ?_) (fun c5 => ?_)
      · try simp only [Bool.or_eq_true, Bool.and_eq_true, Bool.not_eq_true', Bool.not_eq_false', Bool.or_eq_false_iff, Bool.and_eq_false_imp, decide_eq_true_eq, decide_eq_false_iff_not, Bool.not_true, Bool.not_false, beq_iff_eq, Bool.not_eq_true, Bool.not_eq_false, Bool.true_eq_false, Bool.false_eq_true, not_or, Decidable.not_not, ne_eq] at c5
        try simp only [Int.toNat_natCast, dflt_i, dflt_b, dflt_l, dflt_p, Int.toNat_zero, gt_iff_lt, ge_iff_le] at c5
        refine aw_seq ?_
        refine aw_reg _ (by kernel_rfl) rfl ?_
        refine st (m := false) tabok rfl rfl rfl (by (repeat' apply And.intro); all_goals first | exact True.intro | rfl | omega | (simp only [inr]; omega) | (simp only [IntKind.bits]; omega) | exact fun h => h | (intro hq; rw [hq]; rfl) | (simp only [Int.toNat_natCast, dflt_i, dflt_b, dflt_l, dflt_p, Int.toNat_zero, gt_iff_lt, ge_iff_le]; omega) | (simp only [ti3, ti4, ti22, ti41]; omega) | (simp [ti3, ti4, ti22, ti41]; omega) | (simp_all; done) | (simp [SV.cellsL, SV.cells]; done) | (simp [SV.cellsL, SV.cells]; omega)) ?_
        refine ops_nil ?_
        refine aw_ret ?_
        -- leaf ret.3t.5t
        refine ret_c ?_
        refine fs_ff ?_
        have := all_not okN 0 (l := m.1) (i := i) (by omega) (by simp only [okN, Bool.and_eq_false_iff, decide_eq_false_iff_not]; omega)
        simp [validS, this]
      · try simp only [Bool.or_eq_true, Bool.and_eq_true, Bool.not_eq_true', Bool.not_eq_false', Bool.or_eq_false_iff, Bool.and_eq_false_imp, decide_eq_true_eq, decide_eq_false_iff_not, Bool.not_true, Bool.not_false, beq_iff_eq, Bool.not_eq_true, Bool.not_eq_false, Bool.true_eq_false, Bool.false_eq_true, not_or, Decidable.not_not, ne_eq] at c5
        try simp only [Int.toNat_natCast, dflt_i, dflt_b, dflt_l, dflt_p, Int.toNat_zero, gt_iff_lt, ge_iff_le] at c5
        refine aw_skip ?_
        refine aw_reg _ (by kernel_rfl) rfl ?_
        iterate 2 refine st (m := false) tabok rfl rfl rfl (by (repeat' apply And.intro); all_goals first | exact True.intro | rfl | omega | (simp only [inr]; omega) | (simp only [IntKind.bits]; omega) | exact fun h => h | (intro hq; rw [hq]; rfl) | (simp only [Int.toNat_natCast, dflt_i, dflt_b, dflt_l, dflt_p, Int.toNat_zero, gt_iff_lt, ge_iff_le]; omega) | (simp only [ti3, ti4, ti22, ti41]; omega) | (simp [ti3, ti4, ti22, ti41]; omega) | (simp_all; done) | (simp [SV.cellsL, SV.cells]; done) | (simp [SV.cellsL, SV.cells]; omega)) ?_
        iterate 2 refine stg (m := false) tabok rfl rfl rfl rfl rfl (by intro hg; have hg0 := hg; (try simp only [Bool.or_eq_true, Bool.and_eq_true, Bool.not_eq_true', Bool.not_eq_false', Bool.or_eq_false_iff, Bool.and_eq_false_imp, decide_eq_true_eq, decide_eq_false_iff_not, Bool.not_true, Bool.not_false, beq_iff_eq, Bool.not_eq_true, Bool.not_eq_false, Bool.true_eq_false, Bool.false_eq_true, not_or, Decidable.not_not, ne_eq] at hg); (try simp only [Int.toNat_natCast, dflt_i, dflt_b, dflt_l, dflt_p, Int.toNat_zero, gt_iff_lt, ge_iff_le] at hg); (repeat' apply And.intro); all_goals first | exact hg0 | exact True.intro | rfl | omega | (simp only [inr]; omega) | (simp only [IntKind.bits]; omega) | (simp only [Bool.or_eq_true, Bool.and_eq_true, Bool.not_eq_true', Bool.not_eq_false', Bool.or_eq_false_iff, Bool.and_eq_false_imp, decide_eq_true_eq, decide_eq_false_iff_not, Bool.not_true, Bool.not_false, beq_iff_eq, Bool.not_eq_true, Bool.not_eq_false, Bool.true_eq_false, Bool.false_eq_true, not_or, Decidable.not_not, ne_eq]; omega) | (simp only [inr, Int.toNat_natCast, dflt_i, dflt_b, dflt_l, dflt_p, Int.toNat_zero, gt_iff_lt, ge_iff_le]; omega) | (simp only [Int.toNat_natCast, dflt_i, dflt_b, dflt_l, dflt_p, Int.toNat_zero, gt_iff_lt, ge_iff_le]; omega) | (simp only [Bool.or_eq_true, Bool.and_eq_true, Bool.not_eq_true', Bool.not_eq_false', Bool.or_eq_false_iff, Bool.and_eq_false_imp, decide_eq_true_eq, decide_eq_false_iff_not, Bool.not_true, Bool.not_false, beq_iff_eq, Bool.not_eq_true, Bool.not_eq_false, Bool.true_eq_false, Bool.false_eq_true, not_or, Decidable.not_not, ne_eq] at hg0 ⊢; simp_all; done) | (simp_all; done) | (simp_all; omega)) ?_
        iterate 2 refine st (m := false) tabok rfl rfl rfl (by (repeat' apply And.intro); all_goals first | exact True.intro | rfl | omega | (simp only [inr]; omega) | (simp only [IntKind.bits]; omega) | exact fun h => h | (intro hq; rw [hq]; rfl) | (simp only [Int.toNat_natCast, dflt_i, dflt_b, dflt_l, dflt_p, Int.toNat_zero, gt_iff_lt, ge_iff_le]; omega) | (simp only [ti3, ti4, ti22, ti41]; omega) | (simp [ti3, ti4, ti22, ti41]; omega) | (simp_all; done) | (simp [SV.cellsL, SV.cells]; done) | (simp [SV.cellsL, SV.cells]; omega)) ?_
        refine ops_nil ?_
        refine aw_reg _ (by kernel_rfl) rfl ?_
        iterate 2 refine st (m := false) tabok rfl rfl rfl (by (repeat' apply And.intro); all_goals first | exact True.intro | rfl | omega | (simp only [inr]; omega) | (simp only [IntKind.bits]; omega) | exact fun h => h | (intro hq; rw [hq]; rfl) | (simp only [Int.toNat_natCast, dflt_i, dflt_b, dflt_l, dflt_p, Int.toNat_zero, gt_iff_lt, ge_iff_le]; omega) | (simp only [ti3, ti4, ti22, ti41]; omega) | (simp [ti3, ti4, ti22, ti41]; omega) | (simp_all; done) | (simp [SV.cellsL, SV.cells]; done) | (simp [SV.cellsL, SV.cells]; omega)) ?_
        refine ops_nil ?_
        -- leaf L0.3t.5f
        refine Exists.intro (i + 1) ⟨?_, ?_, ?_⟩
        · exact goes_to (tm := _) (st := _) [true] rfl rfl ⟨(by first | rfl | exact q_lst (by simp) | exact q_grow (by simp)), True.intro⟩ ⟨(by first | exact sk rfl rfl | exact sk (q_int (by omega)) rfl | exact sk (q_bool (by simp)) rfl | exact sk (q_view rfl rfl rfl (by omega)) rfl | exact sk (q_gview rfl (by simp)) rfl | exact sk (q_nil rfl) rfl | exact sk (q_row (by simp)) rfl | exact sk_g rfl rfl rfl rfl | exact sk_v rfl rfl rfl rfl rfl | exact sk_n rfl), (by refine sk ?_ rfl; exact q_bool (any_take posN 0 (by omega)).symm), (by first | exact sk rfl rfl | exact sk (q_int (by omega)) rfl | exact sk (q_bool (by simp)) rfl | exact sk (q_view rfl rfl rfl (by omega)) rfl | exact sk (q_gview rfl (by simp)) rfl | exact sk (q_nil rfl) rfl | exact sk (q_row (by simp)) rfl | exact sk_g rfl rfl rfl rfl | exact sk_v rfl rfl rfl rfl rfl | exact sk_n rfl), (by first | exact sk rfl rfl | exact sk (q_int (by omega)) rfl | exact sk (q_bool (by simp)) rfl | exact sk (q_view rfl rfl rfl (by omega)) rfl | exact sk (q_gview rfl (by simp)) rfl | exact sk (q_nil rfl) rfl | exact sk (q_row (by simp)) rfl | exact sk_g rfl rfl rfl rfl | exact sk_v rfl rfl rfl rfl rfl | exact sk_n rfl), (by first | exact sk rfl rfl | exact sk (q_int (by omega)) rfl | exact sk (q_bool (by simp)) rfl | exact sk (q_view rfl rfl rfl (by omega)) rfl | exact sk (q_gview rfl (by simp)) rfl | exact sk (q_nil rfl) rfl | exact sk (q_row (by simp)) rfl | exact sk_g rfl rfl rfl rfl | exact sk_v rfl rfl rfl rfl rfl | exact sk_n rfl), True.intro⟩
        · try dsimp only
          exact ⟨by omega, by rw [all_take okN 0 (by omega), ha]; simp only [okN, Bool.true_and, Bool.and_eq_true, decide_eq_true_eq]; omega⟩
        · (try dsimp only); omega
    · try simp only [Bool.or_eq_true, Bool.and_eq_true, Bool.not_eq_true', Bool.not_eq_false', Bool.or_eq_false_iff, Bool.and_eq_false_imp, decide_eq_true_eq, decide_eq_false_iff_not, Bool.not_true, Bool.not_false, beq_iff_eq, Bool.not_eq_true, Bool.not_eq_false, Bool.true_eq_false, Bool.false_eq_true, not_or, Decidable.not_not, ne_eq] at c3
      try simp only [Int.toNat_natCast, dflt_i, dflt_b, dflt_l, dflt_p, Int.toNat_zero, gt_iff_lt, ge_iff_le] at c3
      refine aw_exit ?_
      refine aw_seq ?_
      refine aw_reg _ (by kernel_rfl) rfl ?_
      iterate 2 refine st (m := false) tabok rfl rfl rfl (by (repeat' apply And.intro); all_goals first | exact True.intro | rfl | omega | (simp only [inr]; omega) | (simp only [IntKind.bits]; omega) | exact fun h => h | (intro hq; rw [hq]; rfl) | (simp only [Int.toNat_natCast, dflt_i, dflt_b, dflt_l, dflt_p, Int.toNat_zero, gt_iff_lt, ge_iff_le]; omega) | (simp only [ti3, ti4, ti22, ti41]; omega) | (simp [ti3, ti4, ti22, ti41]; omega) | (simp_all; done) | (simp [SV.cellsL, SV.cells]; done) | (simp [SV.cellsL, SV.cells]; omega)) ?_
      iterate 3 refine stg (m := false) tabok rfl rfl rfl rfl rfl (by intro hg; have hg0 := hg; (try simp only [Bool.or_eq_true, Bool.and_eq_true, Bool.not_eq_true', Bool.not_eq_false', Bool.or_eq_false_iff, Bool.and_eq_false_imp, decide_eq_true_eq, decide_eq_false_iff_not, Bool.not_true, Bool.not_false, beq_iff_eq, Bool.not_eq_true, Bool.not_eq_false, Bool.true_eq_false, Bool.false_eq_true, not_or, Decidable.not_not, ne_eq] at hg); (try simp only [Int.toNat_natCast, dflt_i, dflt_b, dflt_l, dflt_p, Int.toNat_zero, gt_iff_lt, ge_iff_le] at hg); (repeat' apply And.intro); all_goals first | exact hg0 | exact True.intro | rfl | omega | (simp only [inr]; omega) | (simp only [IntKind.bits]; omega) | (simp only [Bool.or_eq_true, Bool.and_eq_true, Bool.not_eq_true', Bool.not_eq_false', Bool.or_eq_false_iff, Bool.and_eq_false_imp, decide_eq_true_eq, decide_eq_false_iff_not, Bool.not_true, Bool.not_false, beq_iff_eq, Bool.not_eq_true, Bool.not_eq_false, Bool.true_eq_false, Bool.false_eq_true, not_or, Decidable.not_not, ne_eq]; omega) | (simp only [inr, Int.toNat_natCast, dflt_i, dflt_b, dflt_l, dflt_p, Int.toNat_zero, gt_iff_lt, ge_iff_le]; omega) | (simp only [Int.toNat_natCast, dflt_i, dflt_b, dflt_l, dflt_p, Int.toNat_zero, gt_iff_lt, ge_iff_le]; omega) | (simp only [Bool.or_eq_true, Bool.and_eq_true, Bool.not_eq_true', Bool.not_eq_false', Bool.or_eq_false_iff, Bool.and_eq_false_imp, decide_eq_true_eq, decide_eq_false_iff_not, Bool.not_true, Bool.not_false, beq_iff_eq, Bool.not_eq_true, Bool.not_eq_false, Bool.true_eq_false, Bool.false_eq_true, not_or, Decidable.not_not, ne_eq] at hg0 ⊢; simp_all; done) | (simp_all; done) | (simp_all; omega)) ?_
      iterate 2 refine st (m := false) tabok rfl rfl rfl (by (repeat' apply And.intro); all_goals first | exact True.intro | rfl | omega | (simp only [inr]; omega) | (simp only [IntKind.bits]; omega) | exact fun h => h | (intro hq; rw [hq]; rfl) | (simp only [Int.toNat_natCast, dflt_i, dflt_b, dflt_l, dflt_p, Int.toNat_zero, gt_iff_lt, ge_iff_le]; omega) | (simp only [ti3, ti4, ti22, ti41]; omega) | (simp [ti3, ti4, ti22, ti41]; omega) | (simp_all; done) | (simp [SV.cellsL, SV.cells]; done) | (simp [SV.cellsL, SV.cells]; omega)) ?_
      iterate 3 refine stg (m := false) tabok rfl rfl rfl rfl rfl (by intro hg; have hg0 := hg; (try simp only [Bool.or_eq_true, Bool.and_eq_true, Bool.not_eq_true', Bool.not_eq_false', Bool.or_eq_false_iff, Bool.and_eq_false_imp, decide_eq_true_eq, decide_eq_false_iff_not, Bool.not_true, Bool.not_false, beq_iff_eq, Bool.not_eq_true, Bool.not_eq_false, Bool.true_eq_false, Bool.false_eq_true, not_or, Decidable.not_not, ne_eq] at hg); (try simp only [Int.toNat_natCast, dflt_i, dflt_b, dflt_l, dflt_p, Int.toNat_zero, gt_iff_lt, ge_iff_le] at hg); (repeat' apply And.intro); all_goals first | exact hg0 | exact True.intro | rfl | omega | (simp only [inr]; omega) | (simp only [IntKind.bits]; omega) | (simp only [Bool.or_eq_true, Bool.and_eq_true, Bool.not_eq_true', Bool.not_eq_false', Bool.or_eq_false_iff, Bool.and_eq_false_imp, decide_eq_true_eq, decide_eq_false_iff_not, Bool.not_true, Bool.not_false, beq_iff_eq, Bool.not_eq_true, Bool.not_eq_false, Bool.true_eq_false, Bool.false_eq_true, not_or, Decidable.not_not, ne_eq]; omega) | (simp only [inr, Int.toNat_natCast, dflt_i, dflt_b, dflt_l, dflt_p, Int.toNat_zero, gt_iff_lt, ge_iff_le]; omega) | (simp only [Int.toNat_natCast, dflt_i, dflt_b, dflt_l, dflt_p, Int.toNat_zero, gt_iff_lt, ge_iff_le]; omega) | (simp only [Bool.or_eq_true, Bool.and_eq_true, Bool.not_eq_true', Bool.not_eq_false', Bool.or_eq_false_iff, Bool.and_eq_false_imp, decide_eq_true_eq, decide_eq_false_iff_not, Bool.not_true, Bool.not_false, beq_iff_eq, Bool.not_eq_true, Bool.not_eq_false, Bool.true_eq_false, Bool.false_eq_true, not_or, Decidable.not_not, ne_eq] at hg0 ⊢; simp_all; done) | (simp_all; done) | (simp_all; omega)) ?_
      iterate 2 refine st (m := false) tabok rfl rfl rfl (by (repeat' apply And.intro); all_goals first | exact True.intro | rfl | omega | (simp only [inr]; omega) | (simp only [IntKind.bits]; omega) | exact fun h => h | (intro hq; rw [hq]; rfl) | (simp only [Int.toNat_natCast, dflt_i, dflt_b, dflt_l, dflt_p, Int.toNat_zero, gt_iff_lt, ge_iff_le]; omega) | (simp only [ti3, ti4, ti22, ti41]; omega) | (simp [ti3, ti4, ti22, ti41]; omega) | (simp_all; done) | (simp [SV.cellsL, SV.cells]; done) | (simp [SV.cellsL, SV.cells]; omega)) ?_
      refine ops_nil ?_
      refine aw_ret ?_
      -- leaf ret.3f
      refine ret_c ?_
      have hh : i = m.1.length := by omega
      subst hh
      rw [List.take_length] at ha
      refine fs_bool ?_
      simp [validS, ha]
theorem long_ok (m : Mix) : CS Try.prog 25 [mixS m] (.bool (longM m)) := by
  refine fn_c [2] Try.func25 Try.ntmps25 rfl rfl rfl rfl ?_
  refine aw_seq ?_
  refine aw_reg _ (by kernel_rfl) rfl ?_
  iterate 2 refine st (m := false) tabok rfl rfl rfl (by (repeat' apply And.intro); all_goals first | exact True.intro | rfl | omega | (simp only [inr]; omega) | (simp only [IntKind.bits]; omega) | exact fun h => h | (intro hq; rw [hq]; rfl) | (simp only [Int.toNat_natCast, dflt_i, dflt_b, dflt_l, dflt_p, Int.toNat_zero, gt_iff_lt, ge_iff_le]; omega) | (simp only [ti3, ti4, ti22, ti41]; omega) | (simp [ti3, ti4, ti22, ti41]; omega) | (simp_all; done) | (simp [SV.cellsL, SV.cells]; done) | (simp [SV.cellsL, SV.cells]; omega)) ?_
  refine ops_nil ?_
  refine aw_seq ?_
  refine aw_reg _ (by kernel_rfl) rfl ?_
  iterate 5 refine st (m := false) tabok rfl rfl rfl (by (repeat' apply And.intro); all_goals first | exact True.intro | rfl | omega | (simp only [inr]; omega) | (simp only [IntKind.bits]; omega) | exact fun h => h | (intro hq; rw [hq]; rfl) | (simp only [Int.toNat_natCast, dflt_i, dflt_b, dflt_l, dflt_p, Int.toNat_zero, gt_iff_lt, ge_iff_le]; omega) | (simp only [ti3, ti4, ti22, ti41]; omega) | (simp [ti3, ti4, ti22, ti41]; omega) | (simp_all; done) | (simp [SV.cellsL, SV.cells]; done) | (simp [SV.cellsL, SV.cells]; omega)) ?_
  refine ops_nil ?_
  refine aw_ret ?_
  -- leaf ret
  refine ret_c ?_
  exact fs_bool rfl
theorem indexM_ok (l : List Mix) (hl : Big l.length) : CS Try.prog 33 [.row TMix l, .fn (.func 25) [] []] (.int .i64 (idxOf longM l)) := by
  unfold Big at hl
  refine fn_c [4] Try.func33 Try.ntmps33 rfl rfl rfl rfl ?_
  refine aw_seq ?_
  refine aw_reg _ (by kernel_rfl) rfl ?_
  refine st (m := false) tabok rfl rfl rfl (by (repeat' apply And.intro); all_goals first | exact True.intro | rfl | omega | (simp only [inr]; omega) | (simp only [IntKind.bits]; omega) | exact fun h => h | (intro hq; rw [hq]; rfl) | (simp only [Int.toNat_natCast, dflt_i, dflt_b, dflt_l, dflt_p, Int.toNat_zero, gt_iff_lt, ge_iff_le]; omega) | (simp only [ti3, ti4, ti22, ti41]; omega) | (simp [ti3, ti4, ti22, ti41]; omega) | (simp_all; done) | (simp [SV.cellsL, SV.cells]; done) | (simp [SV.cellsL, SV.cells]; omega)) ?_
  refine ops_nil ?_
  refine aw_seq ?_
  refine aw_seq ?_
  refine aw_reg _ (by kernel_rfl) rfl ?_
  iterate 3 refine st (m := false) tabok rfl rfl rfl (by (repeat' apply And.intro); all_goals first | exact True.intro | rfl | omega | (simp only [inr]; omega) | (simp only [IntKind.bits]; omega) | exact fun h => h | (intro hq; rw [hq]; rfl) | (simp only [Int.toNat_natCast, dflt_i, dflt_b, dflt_l, dflt_p, Int.toNat_zero, gt_iff_lt, ge_iff_le]; omega) | (simp only [ti3, ti4, ti22, ti41]; omega) | (simp [ti3, ti4, ti22, ti41]; omega) | (simp_all; done) | (simp [SV.cellsL, SV.cells]; done) | (simp [SV.cellsL, SV.cells]; omega)) ?_
  refine ops_nil ?_
  refine aw_block ?_
  refine aw_loop (X := (Nat)) (fun (i : Nat) => outT (look [(0, .row TMix l), (1, .fn (.func 25) [] []), (7, .int .i64 l.length), (8, .int .i64 i)])) (fun (i : Nat) => outS []) (fun (i : Nat) => (i ≤ l.length) ∧ (∀ k, k < i → longM (l.getD k ([], 0)) = false)) (fun (i : Nat) => l.length - i) (0) ?_ ?_ ?_
  -- leaf L0:entry
  · exact goes_to (tm := _) (st := _) [] rfl rfl True.intro ⟨(by first | exact sk rfl rfl | exact sk (q_int (by omega)) rfl | exact sk (q_bool (by simp)) rfl | exact sk (q_view rfl rfl rfl (by omega)) rfl | exact sk (q_gview rfl (by simp)) rfl | exact sk (q_nil rfl) rfl | exact sk (q_row (by simp)) rfl | exact sk_g rfl rfl rfl rfl | exact sk_v rfl rfl rfl rfl rfl | exact sk_n rfl), (by first | exact sk rfl rfl | exact sk (q_int (by omega)) rfl | exact sk (q_bool (by simp)) rfl | exact sk (q_view rfl rfl rfl (by omega)) rfl | exact sk (q_gview rfl (by simp)) rfl | exact sk (q_nil rfl) rfl | exact sk (q_row (by simp)) rfl | exact sk_g rfl rfl rfl rfl | exact sk_v rfl rfl rfl rfl rfl | exact sk_n rfl), (by first | exact sk rfl rfl | exact sk (q_int (by omega)) rfl | exact sk (q_bool (by simp)) rfl | exact sk (q_view rfl rfl rfl (by omega)) rfl | exact sk (q_gview rfl (by simp)) rfl | exact sk (q_nil rfl) rfl | exact sk (q_row (by simp)) rfl | exact sk_g rfl rfl rfl rfl | exact sk_v rfl rfl rfl rfl rfl | exact sk_n rfl), (by first | exact sk rfl rfl | exact sk (q_int (by omega)) rfl | exact sk (q_bool (by simp)) rfl | exact sk (q_view rfl rfl rfl (by omega)) rfl | exact sk (q_gview rfl (by simp)) rfl | exact sk (q_nil rfl) rfl | exact sk (q_row (by simp)) rfl | exact sk_g rfl rfl rfl rfl | exact sk_v rfl rfl rfl rfl rfl | exact sk_n rfl), True.intro⟩
  · exact ⟨by omega, fun k hk => absurd hk (by omega)⟩
  · skip
    rintro i ⟨hi, hb⟩
    change awpB _ _ _ _ _ (outT (look [(0, .row TMix l), (1, .fn (.func 25) [] []), (7, .int .i64 l.length), (8, .int .i64 i)])) (outS [])
    refine aw_seq ?_
    refine aw_reg _ (by kernel_rfl) rfl ?_
    refine st (m := false) tabok rfl rfl rfl (by (repeat' apply And.intro); all_goals first | exact True.intro | rfl | omega | (simp only [inr]; omega) | (simp only [IntKind.bits]; omega) | exact fun h => h | (intro hq; rw [hq]; rfl) | (simp only [Int.toNat_natCast, dflt_i, dflt_b, dflt_l, dflt_p, Int.toNat_zero, gt_iff_lt, ge_iff_le]; omega) | (simp only [ti3, ti4, ti22, ti41]; omega) | (simp [ti3, ti4, ti22, ti41]; omega) | (simp_all; done) | (simp [SV.cellsL, SV.cells]; done) | (simp [SV.cellsL, SV.cells]; omega)) ?_
    refine ops_nil ?_
    refine aw_seq ?_
    refine aw_if rfl (fun c2 => ?_) (fun c2 => ?_)
    · try simp only [Bool.or_eq_true, Bool.and_eq_true, Bool.not_eq_true', Bool.not_eq_false', Bool.or_eq_false_iff, Bool.and_eq_false_imp, decide_eq_true_eq, decide_eq_false_iff_not, Bool.not_true, Bool.not_false, beq_iff_eq, Bool.not_eq_true, Bool.not_eq_false, Bool.true_eq_false, Bool.false_eq_true, not_or, Decidable.not_not, ne_eq] at c2
      try simp only [Int.toNat_natCast, dflt_i, dflt_b, dflt_l, dflt_p, Int.toNat_zero, gt_iff_lt, ge_iff_le] at c2
      refine aw_skip ?_
      refine aw_seq ?_
      refine aw_block ?_
      refine aw_seq ?_
      refine aw_reg _ (by kernel_rfl) rfl ?_
      iterate 2 refine st (m := false) tabok rfl rfl rfl (by (repeat' apply And.intro); all_goals first | exact True.intro | rfl | omega | (simp only [inr]; omega) | (simp only [IntKind.bits]; omega) | exact fun h => h | (intro hq; rw [hq]; rfl) | (simp only [Int.toNat_natCast, dflt_i, dflt_b, dflt_l, dflt_p, Int.toNat_zero, gt_iff_lt, ge_iff_le]; omega) | (simp only [ti3, ti4, ti22, ti41]; omega) | (simp [ti3, ti4, ti22, ti41]; omega) | (simp_all; done) | (simp [SV.cellsL, SV.cells]; done) | (simp [SV.cellsL, SV.cells]; omega)) ?_
      refine ops_nil ?_
      refine aw_seq ?_
      refine aw_reg _ (by kernel_rfl) rfl ?_
      iterate 5 refine st (m := false) tabok rfl rfl rfl (by (repeat' apply And.intro); all_goals first | exact True.intro | rfl | omega | (simp only [inr]; omega) | (simp only [IntKind.bits]; omega) | exact fun h => h | (intro hq; rw [hq]; rfl) | (simp only [Int.toNat_natCast, dflt_i, dflt_b, dflt_l, dflt_p, Int.toNat_zero, gt_iff_lt, ge_iff_le]; omega) | (simp only [ti3, ti4, ti22, ti41]; omega) | (simp [ti3, ti4, ti22, ti41]; omega) | (simp_all; done) | (simp [SV.cellsL, SV.cells]; done) | (simp [SV.cellsL, SV.cells]; omega)) ?_
      refine sc (long_ok (l.getD i ([], 0))) rfl rfl (by kernel_rfl) rfl (by kernel_rfl) (.cons (by first | exact argw_same | exact argw_nil | exact argw_tt | exact argw_ff | exact argw_eq rfl) .nil) ?_
      refine ops_nil ?_
      refine aw_if rfl (fun c4 => ?_) (fun c4 => ?_)
      · try simp only [Bool.or_eq_true, Bool.and_eq_true, Bool.not_eq_true', Bool.not_eq_false', Bool.or_eq_false_iff, Bool.and_eq_false_imp, decide_eq_true_eq, decide_eq_false_iff_not, Bool.not_true, Bool.not_false, beq_iff_eq, Bool.not_eq_true, Bool.not_eq_false, Bool.true_eq_false, Bool.false_eq_true, not_or, Decidable.not_not, ne_eq] at c4
        try simp only [Int.toNat_natCast, dflt_i, dflt_b, dflt_l, dflt_p, Int.toNat_zero, gt_iff_lt, ge_iff_le] at c4
        refine aw_seq ?_
        refine aw_reg _ (by kernel_rfl) rfl ?_
        iterate 2 refine st (m := false) tabok rfl rfl rfl (by (repeat' apply And.intro); all_goals first | exact True.intro | rfl | omega | (simp only [inr]; omega) | (simp only [IntKind.bits]; omega) | exact fun h => h | (intro hq; rw [hq]; rfl) | (simp only [Int.toNat_natCast, dflt_i, dflt_b, dflt_l, dflt_p, Int.toNat_zero, gt_iff_lt, ge_iff_le]; omega) | (simp only [ti3, ti4, ti22, ti41]; omega) | (simp [ti3, ti4, ti22, ti41]; omega) | (simp_all; done) | (simp [SV.cellsL, SV.cells]; done) | (simp [SV.cellsL, SV.cells]; omega)) ?_
        refine ops_nil ?_
        refine aw_ret ?_
        -- leaf ret.2t.4t
        refine ret_c ?_
        exact fs_int (idxOf_at ([], 0) (by omega) hb c4).symm
      · try simp only [Bool.or_eq_true, Bool.and_eq_true, Bool.not_eq_true', Bool.not_eq_false', Bool.or_eq_false_iff, Bool.and_eq_false_imp, decide_eq_true_eq, decide_eq_false_iff_not, Bool.not_true, Bool.not_false, beq_iff_eq, Bool.not_eq_true, Bool.not_eq_false, Bool.true_eq_false, Bool.false_eq_true, not_or, Decidable.not_not, ne_eq] at c4
        try simp only [Int.toNat_natCast, dflt_i, dflt_b, dflt_l, dflt_p, Int.toNat_zero, gt_iff_lt, ge_iff_le] at c4
        refine aw_skip ?_
        refine aw_reg _ (by kernel_rfl) rfl ?_
        iterate 2 refine st (m := false) tabok rfl rfl rfl (by (repeat' apply And.intro); all_goals first | exact True.intro | rfl | omega | (simp only [inr]; omega) | (simp only [IntKind.bits]; omega) | exact fun h => h | (intro hq; rw [hq]; rfl) | (simp only [Int.toNat_natCast, dflt_i, dflt_b, dflt_l, dflt_p, Int.toNat_zero, gt_iff_lt, ge_iff_le]; omega) | (simp only [ti3, ti4, ti22, ti41]; omega) | (simp [ti3, ti4, ti22, ti41]; omega) | (simp_all; done) | (simp [SV.cellsL, SV.cells]; done) | (simp [SV.cellsL, SV.cells]; omega)) ?_
        refine ops_nil ?_
        -- leaf L0.2t.4f
        refine Exists.intro (i + 1) ⟨?_, ?_, ?_⟩
        · exact goes_to (tm := _) (st := _) [] rfl rfl True.intro ⟨(by first | exact sk rfl rfl | exact sk (q_int (by omega)) rfl | exact sk (q_bool (by simp)) rfl | exact sk (q_view rfl rfl rfl (by omega)) rfl | exact sk (q_gview rfl (by simp)) rfl | exact sk (q_nil rfl) rfl | exact sk (q_row (by simp)) rfl | exact sk_g rfl rfl rfl rfl | exact sk_v rfl rfl rfl rfl rfl | exact sk_n rfl), (by first | exact sk rfl rfl | exact sk (q_int (by omega)) rfl | exact sk (q_bool (by simp)) rfl | exact sk (q_view rfl rfl rfl (by omega)) rfl | exact sk (q_gview rfl (by simp)) rfl | exact sk (q_nil rfl) rfl | exact sk (q_row (by simp)) rfl | exact sk_g rfl rfl rfl rfl | exact sk_v rfl rfl rfl rfl rfl | exact sk_n rfl), (by first | exact sk rfl rfl | exact sk (q_int (by omega)) rfl | exact sk (q_bool (by simp)) rfl | exact sk (q_view rfl rfl rfl (by omega)) rfl | exact sk (q_gview rfl (by simp)) rfl | exact sk (q_nil rfl) rfl | exact sk (q_row (by simp)) rfl | exact sk_g rfl rfl rfl rfl | exact sk_v rfl rfl rfl rfl rfl | exact sk_n rfl), (by first | exact sk rfl rfl | exact sk (q_int (by omega)) rfl | exact sk (q_bool (by simp)) rfl | exact sk (q_view rfl rfl rfl (by omega)) rfl | exact sk (q_gview rfl (by simp)) rfl | exact sk (q_nil rfl) rfl | exact sk (q_row (by simp)) rfl | exact sk_g rfl rfl rfl rfl | exact sk_v rfl rfl rfl rfl rfl | exact sk_n rfl), True.intro⟩
        · try dsimp only
          refine ⟨by omega, fun k hk => ?_⟩
          by_cases e : k = i
          · subst e; exact c4
          · exact hb k (by omega)
        · (try dsimp only); omega
    · try simp only [Bool.or_eq_true, Bool.and_eq_true, Bool.not_eq_true', Bool.not_eq_false', Bool.or_eq_false_iff, Bool.and_eq_false_imp, decide_eq_true_eq, decide_eq_false_iff_not, Bool.not_true, Bool.not_false, beq_iff_eq, Bool.not_eq_true, Bool.not_eq_false, Bool.true_eq_false, Bool.false_eq_true, not_or, Decidable.not_not, ne_eq] at c2
      try simp only [Int.toNat_natCast, dflt_i, dflt_b, dflt_l, dflt_p, Int.toNat_zero, gt_iff_lt, ge_iff_le] at c2
      refine aw_exit ?_
      refine aw_seq ?_
      refine aw_reg _ (by kernel_rfl) rfl ?_
      refine st (m := false) tabok rfl rfl rfl (by (repeat' apply And.intro); all_goals first | exact True.intro | rfl | omega | (simp only [inr]; omega) | (simp only [IntKind.bits]; omega) | exact fun h => h | (intro hq; rw [hq]; rfl) | (simp only [Int.toNat_natCast, dflt_i, dflt_b, dflt_l, dflt_p, Int.toNat_zero, gt_iff_lt, ge_iff_le]; omega) | (simp only [ti3, ti4, ti22, ti41]; omega) | (simp [ti3, ti4, ti22, ti41]; omega) | (simp_all; done) | (simp [SV.cellsL, SV.cells]; done) | (simp [SV.cellsL, SV.cells]; omega)) ?_
      refine ops_nil ?_
      refine aw_ret ?_
      -- leaf ret.2f
      refine ret_c ?_
      exact fs_int (idxOf_none ([], 0) fun k hk => hb k (by omega)).symm
theorem containsM_ok (l : List Mix) (hl : Big l.length) : CS Try.prog 24 [.row TMix l, .fn (.func 25) [] []] (.bool (l.any longM)) := by
  refine fn_c [4] Try.func24 Try.ntmps24 rfl rfl rfl rfl ?_
  refine aw_seq ?_
  refine aw_reg _ (by kernel_rfl) rfl ?_
  refine st (m := false) tabok rfl rfl rfl (by (repeat' apply And.intro); all_goals first | exact True.intro | rfl | omega | (simp only [inr]; omega) | (simp only [IntKind.bits]; omega) | exact fun h => h | (intro hq; rw [hq]; rfl) | (simp only [Int.toNat_natCast, dflt_i, dflt_b, dflt_l, dflt_p, Int.toNat_zero, gt_iff_lt, ge_iff_le]; omega) | (simp only [ti3, ti4, ti22, ti41]; omega) | (simp [ti3, ti4, ti22, ti41]; omega) | (simp_all; done) | (simp [SV.cellsL, SV.cells]; done) | (simp [SV.cellsL, SV.cells]; omega)) ?_
  refine ops_nil ?_
  refine aw_seq ?_
  refine aw_reg _ (by kernel_rfl) rfl ?_
  iterate 2 refine st (m := false) tabok rfl rfl rfl (by (repeat' apply And.intro); all_goals first | exact True.intro | rfl | omega | (simp only [inr]; omega) | (simp only [IntKind.bits]; omega) | exact fun h => h | (intro hq; rw [hq]; rfl) | (simp only [Int.toNat_natCast, dflt_i, dflt_b, dflt_l, dflt_p, Int.toNat_zero, gt_iff_lt, ge_iff_le]; omega) | (simp only [ti3, ti4, ti22, ti41]; omega) | (simp [ti3, ti4, ti22, ti41]; omega) | (simp_all; done) | (simp [SV.cellsL, SV.cells]; done) | (simp [SV.cellsL, SV.cells]; omega)) ?_
  refine sc (indexM_ok l hl) rfl rfl (by kernel_rfl) rfl (by kernel_rfl) (.cons (by first | exact argw_same | exact argw_nil | exact argw_tt | exact argw_ff | exact argw_eq rfl) (.cons (by first | exact argw_same | exact argw_nil | exact argw_tt | exact argw_ff | exact argw_eq rfl) .nil)) ?_
  iterate 2 refine st (m := false) tabok rfl rfl rfl (by (repeat' apply And.intro); all_goals first | exact True.intro | rfl | omega | (simp only [inr]; omega) | (simp only [IntKind.bits]; omega) | exact fun h => h | (intro hq; rw [hq]; rfl) | (simp only [Int.toNat_natCast, dflt_i, dflt_b, dflt_l, dflt_p, Int.toNat_zero, gt_iff_lt, ge_iff_le]; omega) | (simp only [ti3, ti4, ti22, ti41]; omega) | (simp [ti3, ti4, ti22, ti41]; omega) | (simp_all; done) | (simp [SV.cellsL, SV.cells]; done) | (simp [SV.cellsL, SV.cells]; omega)) ?_
  refine ops_nil ?_
  refine aw_ret ?_
  -- leaf ret
  refine ret_c ?_
  exact fs_bool (idxOf_any longM l)
def checkS (m : List Mix) : Int := if m.length > 6 ∨ m.any longM = true then 5 else if m.all (fun x => decide (x.1.length = sizesS m) && validS x) then 0 else 1
theorem check_ok (m : List Mix) (hm : BigM m) : CS Try.prog 19 [.row TMix m] (.int .i64 (checkS m)) := by
  obtain ⟨hl, hx⟩ := hm
  have hl' := hl
  unfold Big at hl'
  refine fn_c [2] Try.func19 Try.ntmps19 rfl rfl rfl rfl ?_
  refine aw_seq ?_
  refine aw_reg _ (by kernel_rfl) rfl ?_
  refine st (m := false) tabok rfl rfl rfl (by (repeat' apply And.intro); all_goals first | exact True.intro | rfl | omega | (simp only [inr]; omega) | (simp only [IntKind.bits]; omega) | exact fun h => h | (intro hq; rw [hq]; rfl) | (simp only [Int.toNat_natCast, dflt_i, dflt_b, dflt_l, dflt_p, Int.toNat_zero, gt_iff_lt, ge_iff_le]; omega) | (simp only [ti3, ti4, ti22, ti41]; omega) | (simp [ti3, ti4, ti22, ti41]; omega) | (simp_all; done) | (simp [SV.cellsL, SV.cells]; done) | (simp [SV.cellsL, SV.cells]; omega)) ?_
  refine ops_nil ?_
  refine aw_seq ?_
  refine aw_seq ?_
  refine aw_reg _ (by kernel_rfl) rfl ?_
  iterate 4 refine st (m := false) tabok rfl rfl rfl (by (repeat' apply And.intro); all_goals first | exact True.intro | rfl | omega | (simp only [inr]; omega) | (simp only [IntKind.bits]; omega) | exact fun h => h | (intro hq; rw [hq]; rfl) | (simp only [Int.toNat_natCast, dflt_i, dflt_b, dflt_l, dflt_p, Int.toNat_zero, gt_iff_lt, ge_iff_le]; omega) | (simp only [ti3, ti4, ti22, ti41]; omega) | (simp [ti3, ti4, ti22, ti41]; omega) | (simp_all; done) | (simp [SV.cellsL, SV.cells]; done) | (simp [SV.cellsL, SV.cells]; omega)) ?_
  refine stg (m := false) tabok rfl rfl rfl rfl rfl (by intro hg; have hg0 := hg; (try simp only [Bool.or_eq_true, Bool.and_eq_true, Bool.not_eq_true', Bool.not_eq_false', Bool.or_eq_false_iff, Bool.and_eq_false_imp, decide_eq_true_eq, decide_eq_false_iff_not, Bool.not_true, Bool.not_false, beq_iff_eq, Bool.not_eq_true, Bool.not_eq_false, Bool.true_eq_false, Bool.false_eq_true, not_or, Decidable.not_not, ne_eq] at hg); (try simp only [Int.toNat_natCast, dflt_i, dflt_b, dflt_l, dflt_p, Int.toNat_zero, gt_iff_lt, ge_iff_le] at hg); (repeat' apply And.intro); all_goals first | exact hg0 | exact True.intro | rfl | omega | (simp only [inr]; omega) | (simp only [IntKind.bits]; omega) | (simp only [Bool.or_eq_true, Bool.and_eq_true, Bool.not_eq_true', Bool.not_eq_false', Bool.or_eq_false_iff, Bool.and_eq_false_imp, decide_eq_true_eq, decide_eq_false_iff_not, Bool.not_true, Bool.not_false, beq_iff_eq, Bool.not_eq_true, Bool.not_eq_false, Bool.true_eq_false, Bool.false_eq_true, not_or, Decidable.not_not, ne_eq]; omega) | (simp only [inr, Int.toNat_natCast, dflt_i, dflt_b, dflt_l, dflt_p, Int.toNat_zero, gt_iff_lt, ge_iff_le]; omega) | (simp only [Int.toNat_natCast, dflt_i, dflt_b, dflt_l, dflt_p, Int.toNat_zero, gt_iff_lt, ge_iff_le]; omega) | (simp only [Bool.or_eq_true, Bool.and_eq_true, Bool.not_eq_true', Bool.not_eq_false', Bool.or_eq_false_iff, Bool.and_eq_false_imp, decide_eq_true_eq, decide_eq_false_iff_not, Bool.not_true, Bool.not_false, beq_iff_eq, Bool.not_eq_true, Bool.not_eq_false, Bool.true_eq_false, Bool.false_eq_true, not_or, Decidable.not_not, ne_eq] at hg0 ⊢; simp_all; done) | (simp_all; done) | (simp_all; omega)) ?_
  refine scg (fun hg => containsM_ok m hl) rfl rfl rfl rfl (by kernel_rfl) rfl (by kernel_rfl) (fun hg => (.cons (by first | exact argw_same | exact argw_nil | exact argw_tt | exact argw_ff | exact argw_eq rfl) (.cons (by first | exact argw_same | exact argw_nil | exact argw_tt | exact argw_ff | exact argw_eq rfl) .nil))) rfl (by intro hg; have hg0 := hg; (try simp only [Bool.or_eq_true, Bool.and_eq_true, Bool.not_eq_true', Bool.not_eq_false', Bool.or_eq_false_iff, Bool.and_eq_false_imp, decide_eq_true_eq, decide_eq_false_iff_not, Bool.not_true, Bool.not_false, beq_iff_eq, Bool.not_eq_true, Bool.not_eq_false, Bool.true_eq_false, Bool.false_eq_true, not_or, Decidable.not_not, ne_eq] at hg); (try simp only [Int.toNat_natCast, dflt_i, dflt_b, dflt_l, dflt_p, Int.toNat_zero, gt_iff_lt, ge_iff_le] at hg); (repeat' apply And.intro); all_goals first | exact hg0 | exact True.intro | rfl | omega | (simp only [inr]; omega) | (simp only [IntKind.bits]; omega) | (simp only [Bool.or_eq_true, Bool.and_eq_true, Bool.not_eq_true', Bool.not_eq_false', Bool.or_eq_false_iff, Bool.and_eq_false_imp, decide_eq_true_eq, decide_eq_false_iff_not, Bool.not_true, Bool.not_false, beq_iff_eq, Bool.not_eq_true, Bool.not_eq_false, Bool.true_eq_false, Bool.false_eq_true, not_or, Decidable.not_not, ne_eq]; omega) | (simp only [inr, Int.toNat_natCast, dflt_i, dflt_b, dflt_l, dflt_p, Int.toNat_zero, gt_iff_lt, ge_iff_le]; omega) | (simp only [Int.toNat_natCast, dflt_i, dflt_b, dflt_l, dflt_p, Int.toNat_zero, gt_iff_lt, ge_iff_le]; omega) | (simp only [Bool.or_eq_true, Bool.and_eq_true, Bool.not_eq_true', Bool.not_eq_false', Bool.or_eq_false_iff, Bool.and_eq_false_imp, decide_eq_true_eq, decide_eq_false_iff_not, Bool.not_true, Bool.not_false, beq_iff_eq, Bool.not_eq_true, Bool.not_eq_false, Bool.true_eq_false, Bool.false_eq_true, not_or, Decidable.not_not, ne_eq] at hg0 ⊢; simp_all; done) | (simp_all; done) | (simp_all; omega)) ?_
  refine st (m := false) tabok rfl rfl rfl (by (repeat' apply And.intro); all_goals first | exact True.intro | rfl | omega | (simp only [inr]; omega) | (simp only [IntKind.bits]; omega) | exact fun h => h | (intro hq; rw [hq]; rfl) | (simp only [Int.toNat_natCast, dflt_i, dflt_b, dflt_l, dflt_p, Int.toNat_zero, gt_iff_lt, ge_iff_le]; omega) | (simp only [ti3, ti4, ti22, ti41]; omega) | (simp [ti3, ti4, ti22, ti41]; omega) | (simp_all; done) | (simp [SV.cellsL, SV.cells]; done) | (simp [SV.cellsL, SV.cells]; omega)) ?_
  refine ops_nil ?_
  refine aw_if rfl (fun c1 => ?_) (fun c1 => ?_)
  · try simp only [Bool.or_eq_true, Bool.and_eq_true, Bool.not_eq_true', Bool.not_eq_false', Bool.or_eq_false_iff, Bool.and_eq_false_imp, decide_eq_true_eq, decide_eq_false_iff_not, Bool.not_true, Bool.not_false, beq_iff_eq, Bool.not_eq_true, Bool.not_eq_false, Bool.true_eq_false, Bool.false_eq_true, not_or, Decidable.not_not, ne_eq] at c1
    try simp only [Int.toNat_natCast, dflt_i, dflt_b, dflt_l, dflt_p, Int.toNat_zero, gt_iff_lt, ge_iff_le] at c1
    refine aw_seq ?_
    refine aw_reg _ (by kernel_rfl) rfl ?_
    refine st (m := false) tabok rfl rfl rfl (by (repeat' apply And.intro); all_goals first | exact True.intro | rfl | omega | (simp only [inr]; omega) | (simp only [IntKind.bits]; omega) | exact fun h => h | (intro hq; rw [hq]; rfl) | (simp only [Int.toNat_natCast, dflt_i, dflt_b, dflt_l, dflt_p, Int.toNat_zero, gt_iff_lt, ge_iff_le]; omega) | (simp only [ti3, ti4, ti22, ti41]; omega) | (simp [ti3, ti4, ti22, ti41]; omega) | (simp_all; done) | (simp [SV.cellsL, SV.cells]; done) | (simp [SV.cellsL, SV.cells]; omega)) ?_
    refine ops_nil ?_
    refine aw_ret ?_
    -- leaf ret.1t
    refine ret_c ?_
    refine fs_int ?_
    rw [checkS, if_pos]
    rcases c1 with c1 | c1
    · left; omega
    · right; exact c1
  · try simp only [Bool.or_eq_true, Bool.and_eq_true, Bool.not_eq_true', Bool.not_eq_false', Bool.or_eq_false_iff, Bool.and_eq_false_imp, decide_eq_true_eq, decide_eq_false_iff_not, Bool.not_true, Bool.not_false, beq_iff_eq, Bool.not_eq_true, Bool.not_eq_false, Bool.true_eq_false, Bool.false_eq_true, not_or, Decidable.not_not, ne_eq] at c1
    try simp only [Int.toNat_natCast, dflt_i, dflt_b, dflt_l, dflt_p, Int.toNat_zero, gt_iff_lt, ge_iff_le] at c1
    refine aw_skip ?_
    refine aw_seq ?_
    refine aw_seq ?_
    refine aw_reg _ (by kernel_rfl) rfl ?_
    iterate 3 refine st (m := false) tabok rfl rfl rfl (by (repeat' apply And.intro); all_goals first | exact True.intro | rfl | omega | (simp only [inr]; omega) | (simp only [IntKind.bits]; omega) | exact fun h => h | (intro hq; rw [hq]; rfl) | (simp only [Int.toNat_natCast, dflt_i, dflt_b, dflt_l, dflt_p, Int.toNat_zero, gt_iff_lt, ge_iff_le]; omega) | (simp only [ti3, ti4, ti22, ti41]; omega) | (simp [ti3, ti4, ti22, ti41]; omega) | (simp_all; done) | (simp [SV.cellsL, SV.cells]; done) | (simp [SV.cellsL, SV.cells]; omega)) ?_
    refine ops_nil ?_
    refine aw_block ?_
    refine aw_loop (X := (Nat)) (fun (i : Nat) => outT (look [(0, .row TMix m), (12, .row TMix m), (13, .int .i64 m.length), (14, .int .i64 i)])) (fun (i : Nat) => outS []) (fun (i : Nat) => (i ≤ m.length) ∧ ((m.take i).all (fun x => decide (x.1.length = sizesS m) && validS x) = true)) (fun (i : Nat) => m.length - i) (0) ?_ ?_ ?_
    -- leaf L0:entry.1f
    · exact goes_to (tm := _) (st := _) [] rfl rfl True.intro ⟨(by first | exact sk rfl rfl | exact sk (q_int (by omega)) rfl | exact sk (q_bool (by simp)) rfl | exact sk (q_view rfl rfl rfl (by omega)) rfl | exact sk (q_gview rfl (by simp)) rfl | exact sk (q_nil rfl) rfl | exact sk (q_row (by simp)) rfl | exact sk_g rfl rfl rfl rfl | exact sk_v rfl rfl rfl rfl rfl | exact sk_n rfl), (by first | exact sk rfl rfl | exact sk (q_int (by omega)) rfl | exact sk (q_bool (by simp)) rfl | exact sk (q_view rfl rfl rfl (by omega)) rfl | exact sk (q_gview rfl (by simp)) rfl | exact sk (q_nil rfl) rfl | exact sk (q_row (by simp)) rfl | exact sk_g rfl rfl rfl rfl | exact sk_v rfl rfl rfl rfl rfl | exact sk_n rfl), (by first | exact sk rfl rfl | exact sk (q_int (by omega)) rfl | exact sk (q_bool (by simp)) rfl | exact sk (q_view rfl rfl rfl (by omega)) rfl | exact sk (q_gview rfl (by simp)) rfl | exact sk (q_nil rfl) rfl | exact sk (q_row (by simp)) rfl | exact sk_g rfl rfl rfl rfl | exact sk_v rfl rfl rfl rfl rfl | exact sk_n rfl), (by first | exact sk rfl rfl | exact sk (q_int (by omega)) rfl | exact sk (q_bool (by simp)) rfl | exact sk (q_view rfl rfl rfl (by omega)) rfl | exact sk (q_gview rfl (by simp)) rfl | exact sk (q_nil rfl) rfl | exact sk (q_row (by simp)) rfl | exact sk_g rfl rfl rfl rfl | exact sk_v rfl rfl rfl rfl rfl | exact sk_n rfl), True.intro⟩
    · exact ⟨by omega, rfl⟩
    · skip
      rintro i ⟨hi, ha⟩
      change awpB _ _ _ _ _ (outT (look [(0, .row TMix m), (12, .row TMix m), (13, .int .i64 m.length), (14, .int .i64 i)])) (outS [])
      refine aw_seq ?_
      refine aw_reg _ (by kernel_rfl) rfl ?_
      refine st (m := false) tabok rfl rfl rfl (by (repeat' apply And.intro); all_goals first | exact True.intro | rfl | omega | (simp only [inr]; omega) | (simp only [IntKind.bits]; omega) | exact fun h => h | (intro hq; rw [hq]; rfl) | (simp only [Int.toNat_natCast, dflt_i, dflt_b, dflt_l, dflt_p, Int.toNat_zero, gt_iff_lt, ge_iff_le]; omega) | (simp only [ti3, ti4, ti22, ti41]; omega) | (simp [ti3, ti4, ti22, ti41]; omega) | (simp_all; done) | (simp [SV.cellsL, SV.cells]; done) | (simp [SV.cellsL, SV.cells]; omega)) ?_
      refine ops_nil ?_
      refine aw_seq ?_
      refine aw_if rfl (fun c4 => ?_) (fun c4 => ?_)
      · try simp only [Bool.or_eq_true, Bool.and_eq_true, Bool.not_eq_true', Bool.not_eq_false', Bool.or_eq_false_iff, Bool.and_eq_false_imp, decide_eq_true_eq, decide_eq_false_iff_not, Bool.not_true, Bool.not_false, beq_iff_eq, Bool.not_eq_true, Bool.not_eq_false, Bool.true_eq_false, Bool.false_eq_true, not_or, Decidable.not_not, ne_eq] at c4
        try simp only [Int.toNat_natCast, dflt_i, dflt_b, dflt_l, dflt_p, Int.toNat_zero, gt_iff_lt, ge_iff_le] at c4
        refine aw_skip ?_
        refine aw_seq ?_
        refine aw_block ?_
        refine aw_seq ?_
        refine aw_reg _ (by kernel_rfl) rfl ?_
        iterate 3 refine st (m := false) tabok rfl rfl rfl (by (repeat' apply And.intro); all_goals first | exact True.intro | rfl | omega | (simp only [inr]; omega) | (simp only [IntKind.bits]; omega) | exact fun h => h | (intro hq; rw [hq]; rfl) | (simp only [Int.toNat_natCast, dflt_i, dflt_b, dflt_l, dflt_p, Int.toNat_zero, gt_iff_lt, ge_iff_le]; omega) | (simp only [ti3, ti4, ti22, ti41]; omega) | (simp [ti3, ti4, ti22, ti41]; omega) | (simp_all; done) | (simp [SV.cellsL, SV.cells]; done) | (simp [SV.cellsL, SV.cells]; omega)) ?_
        refine st0 (m := false) tabok rfl rfl rfl (by (repeat' apply And.intro); all_goals first | exact True.intro | rfl | omega | (simp only [inr]; omega) | (simp only [IntKind.bits]; omega) | exact fun h => h | (intro hq; rw [hq]; rfl) | (simp only [Int.toNat_natCast, dflt_i, dflt_b, dflt_l, dflt_p, Int.toNat_zero, gt_iff_lt, ge_iff_le]; omega) | (simp only [ti3, ti4, ti22, ti41]; omega) | (simp [ti3, ti4, ti22, ti41]; omega) | (simp_all; done) | (simp [SV.cellsL, SV.cells]; done) | (simp [SV.cellsL, SV.cells]; omega)) ?_
        refine ops_nil ?_
        refine aw_seq ?_
        refine aw_regD true _ (by kernel_rfl) (by kernel_rfl) (by kernel_rfl) rfl ?_
        iterate 4 refine sd (m := false) tabok rfl rfl rfl (by (repeat' apply And.intro); all_goals first | exact True.intro | rfl | omega | (simp only [inr]; omega) | (simp only [IntKind.bits]; omega) | exact fun h => h | (intro hq; rw [hq]; rfl) | (simp only [Int.toNat_natCast, dflt_i, dflt_b, dflt_l, dflt_p, Int.toNat_zero, gt_iff_lt, ge_iff_le]; omega) | (simp only [ti3, ti4, ti22, ti41]; omega) | (simp [ti3, ti4, ti22, ti41]; omega) | (simp_all; done) | (simp [SV.cellsL, SV.cells]; done) | (simp [SV.cellsL, SV.cells]; omega)) ?_
        refine sdc (sizes_ok m) rfl rfl rfl (by kernel_rfl) (.cons (by first | exact argw_same | exact argw_nil | exact argw_tt | exact argw_ff | exact argw_eq rfl) .nil) ?_
        iterate 2 refine sd (m := false) tabok rfl rfl rfl (by (repeat' apply And.intro); all_goals first | exact True.intro | rfl | omega | (simp only [inr]; omega) | (simp only [IntKind.bits]; omega) | exact fun h => h | (intro hq; rw [hq]; rfl) | (simp only [Int.toNat_natCast, dflt_i, dflt_b, dflt_l, dflt_p, Int.toNat_zero, gt_iff_lt, ge_iff_le]; omega) | (simp only [ti3, ti4, ti22, ti41]; omega) | (simp [ti3, ti4, ti22, ti41]; omega) | (simp_all; done) | (simp [SV.cellsL, SV.cells]; done) | (simp [SV.cellsL, SV.cells]; omega)) ?_
        refine sdg (m := false) tabok rfl rfl rfl rfl rfl (by intro hg; have hg0 := hg; (try simp only [Bool.or_eq_true, Bool.and_eq_true, Bool.not_eq_true', Bool.not_eq_false', Bool.or_eq_false_iff, Bool.and_eq_false_imp, decide_eq_true_eq, decide_eq_false_iff_not, Bool.not_true, Bool.not_false, beq_iff_eq, Bool.not_eq_true, Bool.not_eq_false, Bool.true_eq_false, Bool.false_eq_true, not_or, Decidable.not_not, ne_eq] at hg); (try simp only [Int.toNat_natCast, dflt_i, dflt_b, dflt_l, dflt_p, Int.toNat_zero, gt_iff_lt, ge_iff_le] at hg); (repeat' apply And.intro); all_goals first | exact hg0 | exact True.intro | rfl | omega | (simp only [inr]; omega) | (simp only [IntKind.bits]; omega) | (simp only [Bool.or_eq_true, Bool.and_eq_true, Bool.not_eq_true', Bool.not_eq_false', Bool.or_eq_false_iff, Bool.and_eq_false_imp, decide_eq_true_eq, decide_eq_false_iff_not, Bool.not_true, Bool.not_false, beq_iff_eq, Bool.not_eq_true, Bool.not_eq_false, Bool.true_eq_false, Bool.false_eq_true, not_or, Decidable.not_not, ne_eq]; omega) | (simp only [inr, Int.toNat_natCast, dflt_i, dflt_b, dflt_l, dflt_p, Int.toNat_zero, gt_iff_lt, ge_iff_le]; omega) | (simp only [Int.toNat_natCast, dflt_i, dflt_b, dflt_l, dflt_p, Int.toNat_zero, gt_iff_lt, ge_iff_le]; omega) | (simp only [Bool.or_eq_true, Bool.and_eq_true, Bool.not_eq_true', Bool.not_eq_false', Bool.or_eq_false_iff, Bool.and_eq_false_imp, decide_eq_true_eq, decide_eq_false_iff_not, Bool.not_true, Bool.not_false, beq_iff_eq, Bool.not_eq_true, Bool.not_eq_false, Bool.true_eq_false, Bool.false_eq_true, not_or, Decidable.not_not, ne_eq] at hg0 ⊢; simp_all; done) | (simp_all; done) | (simp_all; omega)) ?_
        refine sdcg (fun hg => valid_ok _ (hx i (by omega))) rfl rfl rfl rfl rfl (by kernel_rfl) (fun hg => (.cons (by first | exact argw_same | exact argw_nil | exact argw_tt | exact argw_ff | exact argw_eq rfl) .nil)) rfl (by intro hg; have hg0 := hg; (try simp only [Bool.or_eq_true, Bool.and_eq_true, Bool.not_eq_true', Bool.not_eq_false', Bool.or_eq_false_iff, Bool.and_eq_false_imp, decide_eq_true_eq, decide_eq_false_iff_not, Bool.not_true, Bool.not_false, beq_iff_eq, Bool.not_eq_true, Bool.not_eq_false, Bool.true_eq_false, Bool.false_eq_true, not_or, Decidable.not_not, ne_eq] at hg); (try simp only [Int.toNat_natCast, dflt_i, dflt_b, dflt_l, dflt_p, Int.toNat_zero, gt_iff_lt, ge_iff_le] at hg); (repeat' apply And.intro); all_goals first | exact hg0 | exact True.intro | rfl | omega | (simp only [inr]; omega) | (simp only [IntKind.bits]; omega) | (simp only [Bool.or_eq_true, Bool.and_eq_true, Bool.not_eq_true', Bool.not_eq_false', Bool.or_eq_false_iff, Bool.and_eq_false_imp, decide_eq_true_eq, decide_eq_false_iff_not, Bool.not_true, Bool.not_false, beq_iff_eq, Bool.not_eq_true, Bool.not_eq_false, Bool.true_eq_false, Bool.false_eq_true, not_or, Decidable.not_not, ne_eq]; omega) | (simp only [inr, Int.toNat_natCast, dflt_i, dflt_b, dflt_l, dflt_p, Int.toNat_zero, gt_iff_lt, ge_iff_le]; omega) | (simp only [Int.toNat_natCast, dflt_i, dflt_b, dflt_l, dflt_p, Int.toNat_zero, gt_iff_lt, ge_iff_le]; omega) | (simp only [Bool.or_eq_true, Bool.and_eq_true, Bool.not_eq_true', Bool.not_eq_false', Bool.or_eq_false_iff, Bool.and_eq_false_imp, decide_eq_true_eq, decide_eq_false_iff_not, Bool.not_true, Bool.not_false, beq_iff_eq, Bool.not_eq_true, Bool.not_eq_false, Bool.true_eq_false, Bool.false_eq_true, not_or, Decidable.not_not, ne_eq] at hg0 ⊢; simp_all; done) | (simp_all; done) | (simp_all; omega)) ?_
        refine sdg (m := false) tabok rfl rfl rfl rfl rfl (by intro hg; have hg0 := hg; (try simp only [Bool.or_eq_true, Bool.and_eq_true, Bool.not_eq_true', Bool.not_eq_false', Bool.or_eq_false_iff, Bool.and_eq_false_imp, decide_eq_true_eq, decide_eq_false_iff_not, Bool.not_true, Bool.not_false, beq_iff_eq, Bool.not_eq_true, Bool.not_eq_false, Bool.true_eq_false, Bool.false_eq_true, not_or, Decidable.not_not, ne_eq] at hg); (try simp only [Int.toNat_natCast, dflt_i, dflt_b, dflt_l, dflt_p, Int.toNat_zero, gt_iff_lt, ge_iff_le] at hg); (repeat' apply And.intro); all_goals first | exact hg0 | exact True.intro | rfl | omega | (simp only [inr]; omega) | (simp only [IntKind.bits]; omega) | (simp only [Bool.or_eq_true, Bool.and_eq_true, Bool.not_eq_true', Bool.not_eq_false', Bool.or_eq_false_iff, Bool.and_eq_false_imp, decide_eq_true_eq, decide_eq_false_iff_not, Bool.not_true, Bool.not_false, beq_iff_eq, Bool.not_eq_true, Bool.not_eq_false, Bool.true_eq_false, Bool.false_eq_true, not_or, Decidable.not_not, ne_eq]; omega) | (simp only [inr, Int.toNat_natCast, dflt_i, dflt_b, dflt_l, dflt_p, Int.toNat_zero, gt_iff_lt, ge_iff_le]; omega) | (simp only [Int.toNat_natCast, dflt_i, dflt_b, dflt_l, dflt_p, Int.toNat_zero, gt_iff_lt, ge_iff_le]; omega) | (simp only [Bool.or_eq_true, Bool.and_eq_true, Bool.not_eq_true', Bool.not_eq_false', Bool.or_eq_false_iff, Bool.and_eq_false_imp, decide_eq_true_eq, decide_eq_false_iff_not, Bool.not_true, Bool.not_false, beq_iff_eq, Bool.not_eq_true, Bool.not_eq_false, Bool.true_eq_false, Bool.false_eq_true, not_or, Decidable.not_not, ne_eq] at hg0 ⊢; simp_all; done) | (simp_all; done) | (simp_all; omega)) ?_
        refine sd (m := false) tabok rfl rfl rfl (by (repeat' apply And.intro); all_goals first | exact True.intro | rfl | omega | (simp only [inr]; omega) | (simp only [IntKind.bits]; omega) | exact fun h => h | (intro hq; rw [hq]; rfl) | (simp only [Int.toNat_natCast, dflt_i, dflt_b, dflt_l, dflt_p, Int.toNat_zero, gt_iff_lt, ge_iff_le]; omega) | (simp only [ti3, ti4, ti22, ti41]; omega) | (simp [ti3, ti4, ti22, ti41]; omega) | (simp_all; done) | (simp [SV.cellsL, SV.cells]; done) | (simp [SV.cellsL, SV.cells]; omega)) ?_
        refine opd_nil ?_
        refine aw_if rfl (fun c6 => ?_) (fun c6 => ?_)
        · try simp only [Bool.or_eq_true, Bool.and_eq_true, Bool.not_eq_true', Bool.not_eq_false', Bool.or_eq_false_iff, Bool.and_eq_false_imp, decide_eq_true_eq, decide_eq_false_iff_not, Bool.not_true, Bool.not_false, beq_iff_eq, Bool.not_eq_true, Bool.not_eq_false, Bool.true_eq_false, Bool.false_eq_true, not_or, Decidable.not_not, ne_eq] at c6
          try simp only [Int.toNat_natCast, dflt_i, dflt_b, dflt_l, dflt_p, Int.toNat_zero, gt_iff_lt, ge_iff_le] at c6
          refine aw_seq ?_
          refine aw_reg _ (by kernel_rfl) rfl ?_
          refine st (m := false) tabok rfl rfl rfl (by (repeat' apply And.intro); all_goals first | exact True.intro | rfl | omega | (simp only [inr]; omega) | (simp only [IntKind.bits]; omega) | exact fun h => h | (intro hq; rw [hq]; rfl) | (simp only [Int.toNat_natCast, dflt_i, dflt_b, dflt_l, dflt_p, Int.toNat_zero, gt_iff_lt, ge_iff_le]; omega) | (simp only [ti3, ti4, ti22, ti41]; omega) | (simp [ti3, ti4, ti22, ti41]; omega) | (simp_all; done) | (simp [SV.cellsL, SV.cells]; done) | (simp [SV.cellsL, SV.cells]; omega)) ?_
          refine ops_nil ?_
          refine aw_ret ?_
          -- leaf ret.4t.6t
          refine ret_c ?_
          refine fs_int ?_
          rw [checkS, if_neg (by simp only [c1.2, Bool.false_eq_true, or_false]; omega), if_neg]
          rw [Bool.not_eq_true]
          refine all_not _ ([], 0) (i := i) (by omega) ?_
          rw [Bool.and_eq_false_iff]
          rcases c6 with c6 | c6
          · left; exact decide_eq_false (by omega)
          · right; exact c6
        · try simp only [Bool.or_eq_true, Bool.and_eq_true, Bool.not_eq_true', Bool.not_eq_false', Bool.or_eq_false_iff, Bool.and_eq_false_imp, decide_eq_true_eq, decide_eq_false_iff_not, Bool.not_true, Bool.not_false, beq_iff_eq, Bool.not_eq_true, Bool.not_eq_false, Bool.true_eq_false, Bool.false_eq_true, not_or, Decidable.not_not, ne_eq] at c6
          try simp only [Int.toNat_natCast, dflt_i, dflt_b, dflt_l, dflt_p, Int.toNat_zero, gt_iff_lt, ge_iff_le] at c6
          refine aw_skip ?_
          refine aw_reg _ (by kernel_rfl) rfl ?_
          iterate 2 refine st (m := false) tabok rfl rfl rfl (by (repeat' apply And.intro); all_goals first | exact True.intro | rfl | omega | (simp only [inr]; omega) | (simp only [IntKind.bits]; omega) | exact fun h => h | (intro hq; rw [hq]; rfl) | (simp only [Int.toNat_natCast, dflt_i, dflt_b, dflt_l, dflt_p, Int.toNat_zero, gt_iff_lt, ge_iff_le]; omega) | (simp only [ti3, ti4, ti22, ti41]; omega) | (simp [ti3, ti4, ti22, ti41]; omega) | (simp_all; done) | (simp [SV.cellsL, SV.cells]; done) | (simp [SV.cellsL, SV.cells]; omega)) ?_
          refine ops_nil ?_
          -- leaf L0.4t.6f
          refine Exists.intro (i + 1) ⟨?_, ?_, ?_⟩
          · exact goes_to (tm := _) (st := _) [] rfl rfl True.intro ⟨(by first | exact sk rfl rfl | exact sk (q_int (by omega)) rfl | exact sk (q_bool (by simp)) rfl | exact sk (q_view rfl rfl rfl (by omega)) rfl | exact sk (q_gview rfl (by simp)) rfl | exact sk (q_nil rfl) rfl | exact sk (q_row (by simp)) rfl | exact sk_g rfl rfl rfl rfl | exact sk_v rfl rfl rfl rfl rfl | exact sk_n rfl), (by first | exact sk rfl rfl | exact sk (q_int (by omega)) rfl | exact sk (q_bool (by simp)) rfl | exact sk (q_view rfl rfl rfl (by omega)) rfl | exact sk (q_gview rfl (by simp)) rfl | exact sk (q_nil rfl) rfl | exact sk (q_row (by simp)) rfl | exact sk_g rfl rfl rfl rfl | exact sk_v rfl rfl rfl rfl rfl | exact sk_n rfl), (by first | exact sk rfl rfl | exact sk (q_int (by omega)) rfl | exact sk (q_bool (by simp)) rfl | exact sk (q_view rfl rfl rfl (by omega)) rfl | exact sk (q_gview rfl (by simp)) rfl | exact sk (q_nil rfl) rfl | exact sk (q_row (by simp)) rfl | exact sk_g rfl rfl rfl rfl | exact sk_v rfl rfl rfl rfl rfl | exact sk_n rfl), (by first | exact sk rfl rfl | exact sk (q_int (by omega)) rfl | exact sk (q_bool (by simp)) rfl | exact sk (q_view rfl rfl rfl (by omega)) rfl | exact sk (q_gview rfl (by simp)) rfl | exact sk (q_nil rfl) rfl | exact sk (q_row (by simp)) rfl | exact sk_g rfl rfl rfl rfl | exact sk_v rfl rfl rfl rfl rfl | exact sk_n rfl), True.intro⟩
          · try dsimp only
            refine ⟨by omega, ?_⟩
            rw [all_take _ ([], 0) (by omega), ha, Bool.true_and, Bool.and_eq_true]
            have h1 := c6.1
            exact ⟨decide_eq_true (by omega), c6.2⟩
          · (try dsimp only); omega
      · try simp only [Bool.or_eq_true, Bool.and_eq_true, Bool.not_eq_true', Bool.not_eq_false', Bool.or_eq_false_iff, Bool.and_eq_false_imp, decide_eq_true_eq, decide_eq_false_iff_not, Bool.not_true, Bool.not_false, beq_iff_eq, Bool.not_eq_true, Bool.not_eq_false, Bool.true_eq_false, Bool.false_eq_true, not_or, Decidable.not_not, ne_eq] at c4
        try simp only [Int.toNat_natCast, dflt_i, dflt_b, dflt_l, dflt_p, Int.toNat_zero, gt_iff_lt, ge_iff_le] at c4
        refine aw_exit ?_
        refine aw_seq ?_
        refine aw_reg _ (by kernel_rfl) rfl ?_
        refine st (m := false) tabok rfl rfl rfl (by (repeat' apply And.intro); all_goals first | exact True.intro | rfl | omega | (simp only [inr]; omega) | (simp only [IntKind.bits]; omega) | exact fun h => h | (intro hq; rw [hq]; rfl) | (simp only [Int.toNat_natCast, dflt_i, dflt_b, dflt_l, dflt_p, Int.toNat_zero, gt_iff_lt, ge_iff_le]; omega) | (simp only [ti3, ti4, ti22, ti41]; omega) | (simp [ti3, ti4, ti22, ti41]; omega) | (simp_all; done) | (simp [SV.cellsL, SV.cells]; done) | (simp [SV.cellsL, SV.cells]; omega)) ?_
        refine ops_nil ?_
        refine aw_ret ?_
        -- leaf ret.4f
        refine ret_c ?_
        have hh : i = m.length := by omega
        subst hh
        rw [List.take_length] at ha
        refine fs_int ?_
        rw [checkS, if_neg (by simp only [c1.2, Bool.false_eq_true, or_false]; omega), if_pos ha]

def inB (k n : Int) : Bool := decide (n < 0) || decide (n > k)
def withinS (l : List Int) (k : Int) : Bool := !l.any (inB k)
theorem inB_ok (k n : Int) : CS Try.prog 28 [.int .i64 n, .rptr TI64 [k] 0 0] (.bool (inB k n)) := by
  refine fn_c [3] Try.func28 Try.ntmps28 rfl rfl rfl rfl ?_
  refine aw_seq ?_
  refine aw_reg _ (by kernel_rfl) rfl ?_
  refine st (m := false) tabok rfl rfl rfl (by (repeat' apply And.intro); all_goals first | exact True.intro | rfl | omega | (simp only [inr]; omega) | (simp only [IntKind.bits]; omega) | exact fun h => h | (intro hq; rw [hq]; rfl) | (simp only [Int.toNat_natCast, dflt_i, dflt_b, dflt_l, dflt_p, Int.toNat_zero, gt_iff_lt, ge_iff_le]; omega) | (simp only [ti3, ti4, ti22, ti41]; omega) | (simp [ti3, ti4, ti22, ti41]; omega) | (simp_all; done) | (simp [SV.cellsL, SV.cells]; done) | (simp [SV.cellsL, SV.cells]; omega)) ?_
  refine ops_nil ?_
  refine aw_seq ?_
  refine aw_reg _ (by kernel_rfl) rfl ?_
  iterate 3 refine st (m := false) tabok rfl rfl rfl (by (repeat' apply And.intro); all_goals first | exact True.intro | rfl | omega | (simp only [inr]; omega) | (simp only [IntKind.bits]; omega) | exact fun h => h | (intro hq; rw [hq]; rfl) | (simp only [Int.toNat_natCast, dflt_i, dflt_b, dflt_l, dflt_p, Int.toNat_zero, gt_iff_lt, ge_iff_le]; omega) | (simp only [ti3, ti4, ti22, ti41]; omega) | (simp [ti3, ti4, ti22, ti41]; omega) | (simp_all; done) | (simp [SV.cellsL, SV.cells]; done) | (simp [SV.cellsL, SV.cells]; omega)) ?_
  iterate 3 refine stg (m := false) tabok rfl rfl rfl rfl rfl (by intro hg; have hg0 := hg; (try simp only [Bool.or_eq_true, Bool.and_eq_true, Bool.not_eq_true', Bool.not_eq_false', Bool.or_eq_false_iff, Bool.and_eq_false_imp, decide_eq_true_eq, decide_eq_false_iff_not, Bool.not_true, Bool.not_false, beq_iff_eq, Bool.not_eq_true, Bool.not_eq_false, Bool.true_eq_false, Bool.false_eq_true, not_or, Decidable.not_not, ne_eq] at hg); (try simp only [Int.toNat_natCast, dflt_i, dflt_b, dflt_l, dflt_p, Int.toNat_zero, gt_iff_lt, ge_iff_le] at hg); (repeat' apply And.intro); all_goals first | exact hg0 | exact True.intro | rfl | omega | (simp only [inr]; omega) | (simp only [IntKind.bits]; omega) | (simp only [Bool.or_eq_true, Bool.and_eq_true, Bool.not_eq_true', Bool.not_eq_false', Bool.or_eq_false_iff, Bool.and_eq_false_imp, decide_eq_true_eq, decide_eq_false_iff_not, Bool.not_true, Bool.not_false, beq_iff_eq, Bool.not_eq_true, Bool.not_eq_false, Bool.true_eq_false, Bool.false_eq_true, not_or, Decidable.not_not, ne_eq]; omega) | (simp only [inr, Int.toNat_natCast, dflt_i, dflt_b, dflt_l, dflt_p, Int.toNat_zero, gt_iff_lt, ge_iff_le]; omega) | (simp only [Int.toNat_natCast, dflt_i, dflt_b, dflt_l, dflt_p, Int.toNat_zero, gt_iff_lt, ge_iff_le]; omega) | (simp only [Bool.or_eq_true, Bool.and_eq_true, Bool.not_eq_true', Bool.not_eq_false', Bool.or_eq_false_iff, Bool.and_eq_false_imp, decide_eq_true_eq, decide_eq_false_iff_not, Bool.not_true, Bool.not_false, beq_iff_eq, Bool.not_eq_true, Bool.not_eq_false, Bool.true_eq_false, Bool.false_eq_true, not_or, Decidable.not_not, ne_eq] at hg0 ⊢; simp_all; done) | (simp_all; done) | (simp_all; omega)) ?_
  iterate 2 refine st (m := false) tabok rfl rfl rfl (by (repeat' apply And.intro); all_goals first | exact True.intro | rfl | omega | (simp only [inr]; omega) | (simp only [IntKind.bits]; omega) | exact fun h => h | (intro hq; rw [hq]; rfl) | (simp only [Int.toNat_natCast, dflt_i, dflt_b, dflt_l, dflt_p, Int.toNat_zero, gt_iff_lt, ge_iff_le]; omega) | (simp only [ti3, ti4, ti22, ti41]; omega) | (simp [ti3, ti4, ti22, ti41]; omega) | (simp_all; done) | (simp [SV.cellsL, SV.cells]; done) | (simp [SV.cellsL, SV.cells]; omega)) ?_
  refine ops_nil ?_
  refine aw_ret ?_
  -- leaf ret
  refine ret_c ?_
  exact fs_bool rfl
theorem indexI_ok (l : List Int) (k : Int) (hl : Big l.length) : CS Try.prog 34 [.row TI64 l, .fn (.func 28) [] [.rptr TI64 [k] 0 0]] (.int .i64 (idxOf (inB k) l)) := by
  unfold Big at hl
  refine fn_c [4] Try.func34 Try.ntmps34 rfl rfl rfl rfl ?_
  refine aw_seq ?_
  refine aw_reg _ (by kernel_rfl) rfl ?_
  refine st (m := false) tabok rfl rfl rfl (by (repeat' apply And.intro); all_goals first | exact True.intro | rfl | omega | (simp only [inr]; omega) | (simp only [IntKind.bits]; omega) | exact fun h => h | (intro hq; rw [hq]; rfl) | (simp only [Int.toNat_natCast, dflt_i, dflt_b, dflt_l, dflt_p, Int.toNat_zero, gt_iff_lt, ge_iff_le]; omega) | (simp only [ti3, ti4, ti22, ti41]; omega) | (simp [ti3, ti4, ti22, ti41]; omega) | (simp_all; done) | (simp [SV.cellsL, SV.cells]; done) | (simp [SV.cellsL, SV.cells]; omega)) ?_
  refine ops_nil ?_
  refine aw_seq ?_
  refine aw_seq ?_
  refine aw_reg _ (by kernel_rfl) rfl ?_
  iterate 3 refine st (m := false) tabok rfl rfl rfl (by (repeat' apply And.intro); all_goals first | exact True.intro | rfl | omega | (simp only [inr]; omega) | (simp only [IntKind.bits]; omega) | exact fun h => h | (intro hq; rw [hq]; rfl) | (simp only [Int.toNat_natCast, dflt_i, dflt_b, dflt_l, dflt_p, Int.toNat_zero, gt_iff_lt, ge_iff_le]; omega) | (simp only [ti3, ti4, ti22, ti41]; omega) | (simp [ti3, ti4, ti22, ti41]; omega) | (simp_all; done) | (simp [SV.cellsL, SV.cells]; done) | (simp [SV.cellsL, SV.cells]; omega)) ?_
  refine ops_nil ?_
  refine aw_block ?_
  refine aw_loop (X := (Nat)) (fun (i : Nat) => outT (look [(0, .row TI64 l), (1, .fn (.func 28) [] [.rptr TI64 [k] 0 0]), (7, .int .i64 l.length), (8, .int .i64 i)])) (fun (i : Nat) => outS []) (fun (i : Nat) => (i ≤ l.length) ∧ (∀ j, j < i → inB k (l.getD j 0) = false)) (fun (i : Nat) => l.length - i) (0) ?_ ?_ ?_
  -- leaf L0:entry
  · exact goes_to (tm := _) (st := _) [] rfl rfl True.intro ⟨(by first | exact sk rfl rfl | exact sk (q_int (by omega)) rfl | exact sk (q_bool (by simp)) rfl | exact sk (q_view rfl rfl rfl (by omega)) rfl | exact sk (q_gview rfl (by simp)) rfl | exact sk (q_nil rfl) rfl | exact sk (q_row (by simp)) rfl | exact sk_g rfl rfl rfl rfl | exact sk_v rfl rfl rfl rfl rfl | exact sk_n rfl), (by first | exact sk rfl rfl | exact sk (q_int (by omega)) rfl | exact sk (q_bool (by simp)) rfl | exact sk (q_view rfl rfl rfl (by omega)) rfl | exact sk (q_gview rfl (by simp)) rfl | exact sk (q_nil rfl) rfl | exact sk (q_row (by simp)) rfl | exact sk_g rfl rfl rfl rfl | exact sk_v rfl rfl rfl rfl rfl | exact sk_n rfl), (by first | exact sk rfl rfl | exact sk (q_int (by omega)) rfl | exact sk (q_bool (by simp)) rfl | exact sk (q_view rfl rfl rfl (by omega)) rfl | exact sk (q_gview rfl (by simp)) rfl | exact sk (q_nil rfl) rfl | exact sk (q_row (by simp)) rfl | exact sk_g rfl rfl rfl rfl | exact sk_v rfl rfl rfl rfl rfl | exact sk_n rfl), (by first | exact sk rfl rfl | exact sk (q_int (by omega)) rfl | exact sk (q_bool (by simp)) rfl | exact sk (q_view rfl rfl rfl (by omega)) rfl | exact sk (q_gview rfl (by simp)) rfl | exact sk (q_nil rfl) rfl | exact sk (q_row (by simp)) rfl | exact sk_g rfl rfl rfl rfl | exact sk_v rfl rfl rfl rfl rfl | exact sk_n rfl), True.intro⟩
  · exact ⟨by omega, fun k hk => absurd hk (by omega)⟩
  · skip
    rintro i ⟨hi, hb⟩
    change awpB _ _ _ _ _ (outT (look [(0, .row TI64 l), (1, .fn (.func 28) [] [.rptr TI64 [k] 0 0]), (7, .int .i64 l.length), (8, .int .i64 i)])) (outS [])
    refine aw_seq ?_
    refine aw_reg _ (by kernel_rfl) rfl ?_
    refine st (m := false) tabok rfl rfl rfl (by (repeat' apply And.intro); all_goals first | exact True.intro | rfl | omega | (simp only [inr]; omega) | (simp only [IntKind.bits]; omega) | exact fun h => h | (intro hq; rw [hq]; rfl) | (simp only [Int.toNat_natCast, dflt_i, dflt_b, dflt_l, dflt_p, Int.toNat_zero, gt_iff_lt, ge_iff_le]; omega) | (simp only [ti3, ti4, ti22, ti41]; omega) | (simp [ti3, ti4, ti22, ti41]; omega) | (simp_all; done) | (simp [SV.cellsL, SV.cells]; done) | (simp [SV.cellsL, SV.cells]; omega)) ?_
    refine ops_nil ?_
    refine aw_seq ?_
    refine aw_if rfl (fun c2 => ?_) (fun c2 => ?_)
    · try simp only [Bool.or_eq_true, Bool.and_eq_true, Bool.not_eq_true', Bool.not_eq_false', Bool.or_eq_false_iff, Bool.and_eq_false_imp, decide_eq_true_eq, decide_eq_false_iff_not, Bool.not_true, Bool.not_false, beq_iff_eq, Bool.not_eq_true, Bool.not_eq_false, Bool.true_eq_false, Bool.false_eq_true, not_or, Decidable.not_not, ne_eq] at c2
      try simp only [Int.toNat_natCast, dflt_i, dflt_b, dflt_l, dflt_p, Int.toNat_zero, gt_iff_lt, ge_iff_le] at c2
      refine aw_skip ?_
      refine aw_seq ?_
      refine aw_block ?_
      refine aw_seq ?_
      refine aw_reg _ (by kernel_rfl) rfl ?_
      iterate 2 refine st (m := false) tabok rfl rfl rfl (by (repeat' apply And.intro); all_goals first | exact True.intro | rfl | omega | (simp only [inr]; omega) | (simp only [IntKind.bits]; omega) | exact fun h => h | (intro hq; rw [hq]; rfl) | (simp only [Int.toNat_natCast, dflt_i, dflt_b, dflt_l, dflt_p, Int.toNat_zero, gt_iff_lt, ge_iff_le]; omega) | (simp only [ti3, ti4, ti22, ti41]; omega) | (simp [ti3, ti4, ti22, ti41]; omega) | (simp_all; done) | (simp [SV.cellsL, SV.cells]; done) | (simp [SV.cellsL, SV.cells]; omega)) ?_
      refine ops_nil ?_
      refine aw_seq ?_
      refine aw_reg _ (by kernel_rfl) rfl ?_
      iterate 5 refine st (m := false) tabok rfl rfl rfl (by (repeat' apply And.intro); all_goals first | exact True.intro | rfl | omega | (simp only [inr]; omega) | (simp only [IntKind.bits]; omega) | exact fun h => h | (intro hq; rw [hq]; rfl) | (simp only [Int.toNat_natCast, dflt_i, dflt_b, dflt_l, dflt_p, Int.toNat_zero, gt_iff_lt, ge_iff_le]; omega) | (simp only [ti3, ti4, ti22, ti41]; omega) | (simp [ti3, ti4, ti22, ti41]; omega) | (simp_all; done) | (simp [SV.cellsL, SV.cells]; done) | (simp [SV.cellsL, SV.cells]; omega)) ?_
      refine sc (inB_ok k (l.getD i 0)) rfl rfl (by kernel_rfl) rfl (by kernel_rfl) (.cons (by first | exact argw_same | exact argw_nil | exact argw_tt | exact argw_ff | exact argw_eq rfl) (.cons (by first | exact argw_same | exact argw_nil | exact argw_tt | exact argw_ff | exact argw_eq rfl) .nil)) ?_
      refine ops_nil ?_
      refine aw_if rfl (fun c4 => ?_) (fun c4 => ?_)
      · try simp only [Bool.or_eq_true, Bool.and_eq_true, Bool.not_eq_true', Bool.not_eq_false', Bool.or_eq_false_iff, Bool.and_eq_false_imp, decide_eq_true_eq, decide_eq_false_iff_not, Bool.not_true, Bool.not_false, beq_iff_eq, Bool.not_eq_true, Bool.not_eq_false, Bool.true_eq_false, Bool.false_eq_true, not_or, Decidable.not_not, ne_eq] at c4
        try simp only [Int.toNat_natCast, dflt_i, dflt_b, dflt_l, dflt_p, Int.toNat_zero, gt_iff_lt, ge_iff_le] at c4
        refine aw_seq ?_
        refine aw_reg _ (by kernel_rfl) rfl ?_
        iterate 2 refine st (m := false) tabok rfl rfl rfl (by (repeat' apply And.intro); all_goals first | exact True.intro | rfl | omega | (simp only [inr]; omega) | (simp only [IntKind.bits]; omega) | exact fun h => h | (intro hq; rw [hq]; rfl) | (simp only [Int.toNat_natCast, dflt_i, dflt_b, dflt_l, dflt_p, Int.toNat_zero, gt_iff_lt, ge_iff_le]; omega) | (simp only [ti3, ti4, ti22, ti41]; omega) | (simp [ti3, ti4, ti22, ti41]; omega) | (simp_all; done) | (simp [SV.cellsL, SV.cells]; done) | (simp [SV.cellsL, SV.cells]; omega)) ?_
        refine ops_nil ?_
        refine aw_ret ?_
        -- leaf ret.2t.4t
        refine ret_c ?_
        exact fs_int (idxOf_at 0 (by omega) hb c4).symm
      · try simp only [Bool.or_eq_true, Bool.and_eq_true, Bool.not_eq_true', Bool.not_eq_false', Bool.or_eq_false_iff, Bool.and_eq_false_imp, decide_eq_true_eq, decide_eq_false_iff_not, Bool.not_true, Bool.not_false, beq_iff_eq, Bool.not_eq_true, Bool.not_eq_false, Bool.true_eq_false, Bool.false_eq_true, not_or, Decidable.not_not, ne_eq] at c4
        try simp only [Int.toNat_natCast, dflt_i, dflt_b, dflt_l, dflt_p, Int.toNat_zero, gt_iff_lt, ge_iff_le] at c4
        refine aw_skip ?_
        refine aw_reg _ (by kernel_rfl) rfl ?_
        iterate 2 refine st (m := false) tabok rfl rfl rfl (by (repeat' apply And.intro); all_goals first | exact True.intro | rfl | omega | (simp only [inr]; omega) | (simp only [IntKind.bits]; omega) | exact fun h => h | (intro hq; rw [hq]; rfl) | (simp only [Int.toNat_natCast, dflt_i, dflt_b, dflt_l, dflt_p, Int.toNat_zero, gt_iff_lt, ge_iff_le]; omega) | (simp only [ti3, ti4, ti22, ti41]; omega) | (simp [ti3, ti4, ti22, ti41]; omega) | (simp_all; done) | (simp [SV.cellsL, SV.cells]; done) | (simp [SV.cellsL, SV.cells]; omega)) ?_
        refine ops_nil ?_
        -- leaf L0.2t.4f
        refine Exists.intro (i + 1) ⟨?_, ?_, ?_⟩
        · exact goes_to (tm := _) (st := _) [] rfl rfl True.intro ⟨(by first | exact sk rfl rfl | exact sk (q_int (by omega)) rfl | exact sk (q_bool (by simp)) rfl | exact sk (q_view rfl rfl rfl (by omega)) rfl | exact sk (q_gview rfl (by simp)) rfl | exact sk (q_nil rfl) rfl | exact sk (q_row (by simp)) rfl | exact sk_g rfl rfl rfl rfl | exact sk_v rfl rfl rfl rfl rfl | exact sk_n rfl), (by first | exact sk rfl rfl | exact sk (q_int (by omega)) rfl | exact sk (q_bool (by simp)) rfl | exact sk (q_view rfl rfl rfl (by omega)) rfl | exact sk (q_gview rfl (by simp)) rfl | exact sk (q_nil rfl) rfl | exact sk (q_row (by simp)) rfl | exact sk_g rfl rfl rfl rfl | exact sk_v rfl rfl rfl rfl rfl | exact sk_n rfl), (by first | exact sk rfl rfl | exact sk (q_int (by omega)) rfl | exact sk (q_bool (by simp)) rfl | exact sk (q_view rfl rfl rfl (by omega)) rfl | exact sk (q_gview rfl (by simp)) rfl | exact sk (q_nil rfl) rfl | exact sk (q_row (by simp)) rfl | exact sk_g rfl rfl rfl rfl | exact sk_v rfl rfl rfl rfl rfl | exact sk_n rfl), (by first | exact sk rfl rfl | exact sk (q_int (by omega)) rfl | exact sk (q_bool (by simp)) rfl | exact sk (q_view rfl rfl rfl (by omega)) rfl | exact sk (q_gview rfl (by simp)) rfl | exact sk (q_nil rfl) rfl | exact sk (q_row (by simp)) rfl | exact sk_g rfl rfl rfl rfl | exact sk_v rfl rfl rfl rfl rfl | exact sk_n rfl), True.intro⟩
        · try dsimp only
          refine ⟨by omega, fun j hj => ?_⟩
          by_cases e : j = i
          · subst e; exact c4
          · exact hb j (by omega)
        · (try dsimp only); omega
    · try simp only [Bool.or_eq_true, Bool.and_eq_true, Bool.not_eq_true', Bool.not_eq_false', Bool.or_eq_false_iff, Bool.and_eq_false_imp, decide_eq_true_eq, decide_eq_false_iff_not, Bool.not_true, Bool.not_false, beq_iff_eq, Bool.not_eq_true, Bool.not_eq_false, Bool.true_eq_false, Bool.false_eq_true, not_or, Decidable.not_not, ne_eq] at c2
      try simp only [Int.toNat_natCast, dflt_i, dflt_b, dflt_l, dflt_p, Int.toNat_zero, gt_iff_lt, ge_iff_le] at c2
      refine aw_exit ?_
      refine aw_seq ?_
      refine aw_reg _ (by kernel_rfl) rfl ?_
      refine st (m := false) tabok rfl rfl rfl (by (repeat' apply And.intro); all_goals first | exact True.intro | rfl | omega | (simp only [inr]; omega) | (simp only [IntKind.bits]; omega) | exact fun h => h | (intro hq; rw [hq]; rfl) | (simp only [Int.toNat_natCast, dflt_i, dflt_b, dflt_l, dflt_p, Int.toNat_zero, gt_iff_lt, ge_iff_le]; omega) | (simp only [ti3, ti4, ti22, ti41]; omega) | (simp [ti3, ti4, ti22, ti41]; omega) | (simp_all; done) | (simp [SV.cellsL, SV.cells]; done) | (simp [SV.cellsL, SV.cells]; omega)) ?_
      refine ops_nil ?_
      refine aw_ret ?_
      -- leaf ret.2f
      refine ret_c ?_
      exact fs_int (idxOf_none 0 fun k hk => hb k (by omega)).symm
theorem containsI_ok (l : List Int) (k : Int) (hl : Big l.length) : CS Try.prog 27 [.row TI64 l, .fn (.func 28) [] [.rptr TI64 [k] 0 0]] (.bool (l.any (inB k))) := by
  refine fn_c [4] Try.func27 Try.ntmps27 rfl rfl rfl rfl ?_
  refine aw_seq ?_
  refine aw_reg _ (by kernel_rfl) rfl ?_
  refine st (m := false) tabok rfl rfl rfl (by (repeat' apply And.intro); all_goals first | exact True.intro | rfl | omega | (simp only [inr]; omega) | (simp only [IntKind.bits]; omega) | exact fun h => h | (intro hq; rw [hq]; rfl) | (simp only [Int.toNat_natCast, dflt_i, dflt_b, dflt_l, dflt_p, Int.toNat_zero, gt_iff_lt, ge_iff_le]; omega) | (simp only [ti3, ti4, ti22, ti41]; omega) | (simp [ti3, ti4, ti22, ti41]; omega) | (simp_all; done) | (simp [SV.cellsL, SV.cells]; done) | (simp [SV.cellsL, SV.cells]; omega)) ?_
  refine ops_nil ?_
  refine aw_seq ?_
  refine aw_reg _ (by kernel_rfl) rfl ?_
  iterate 2 refine st (m := false) tabok rfl rfl rfl (by (repeat' apply And.intro); all_goals first | exact True.intro | rfl | omega | (simp only [inr]; omega) | (simp only [IntKind.bits]; omega) | exact fun h => h | (intro hq; rw [hq]; rfl) | (simp only [Int.toNat_natCast, dflt_i, dflt_b, dflt_l, dflt_p, Int.toNat_zero, gt_iff_lt, ge_iff_le]; omega) | (simp only [ti3, ti4, ti22, ti41]; omega) | (simp [ti3, ti4, ti22, ti41]; omega) | (simp_all; done) | (simp [SV.cellsL, SV.cells]; done) | (simp [SV.cellsL, SV.cells]; omega)) ?_
  refine sc (indexI_ok l k hl) rfl rfl (by kernel_rfl) rfl (by kernel_rfl) (.cons (by first | exact argw_same | exact argw_nil | exact argw_tt | exact argw_ff | exact argw_eq rfl) (.cons (by first | exact argw_same | exact argw_nil | exact argw_tt | exact argw_ff | exact argw_eq rfl) .nil)) ?_
  iterate 2 refine st (m := false) tabok rfl rfl rfl (by (repeat' apply And.intro); all_goals first | exact True.intro | rfl | omega | (simp only [inr]; omega) | (simp only [IntKind.bits]; omega) | exact fun h => h | (intro hq; rw [hq]; rfl) | (simp only [Int.toNat_natCast, dflt_i, dflt_b, dflt_l, dflt_p, Int.toNat_zero, gt_iff_lt, ge_iff_le]; omega) | (simp only [ti3, ti4, ti22, ti41]; omega) | (simp [ti3, ti4, ti22, ti41]; omega) | (simp_all; done) | (simp [SV.cellsL, SV.cells]; done) | (simp [SV.cellsL, SV.cells]; omega)) ?_
  refine ops_nil ?_
  refine aw_ret ?_
  -- leaf ret
  refine ret_c ?_
  exact fs_bool (idxOf_any (inB k) l)
theorem within_ok (l : List Int) (k : Int) (hl : Big l.length) : CS Try.prog 21 [.row TI64 l, .int .i64 k] (.bool (withinS l k)) := by
  refine fn_c [4] Try.func21 Try.ntmps21 rfl rfl rfl rfl ?_
  refine aw_seq ?_
  refine aw_reg _ (by kernel_rfl) rfl ?_
  iterate 2 refine st (m := false) tabok rfl rfl rfl (by (repeat' apply And.intro); all_goals first | exact True.intro | rfl | omega | (simp only [inr]; omega) | (simp only [IntKind.bits]; omega) | exact fun h => h | (intro hq; rw [hq]; rfl) | (simp only [Int.toNat_natCast, dflt_i, dflt_b, dflt_l, dflt_p, Int.toNat_zero, gt_iff_lt, ge_iff_le]; omega) | (simp only [ti3, ti4, ti22, ti41]; omega) | (simp [ti3, ti4, ti22, ti41]; omega) | (simp_all; done) | (simp [SV.cellsL, SV.cells]; done) | (simp [SV.cellsL, SV.cells]; omega)) ?_
  refine ops_nil ?_
  refine aw_seq ?_
  refine aw_reg _ (by kernel_rfl) rfl ?_
  iterate 2 refine st (m := false) tabok rfl rfl rfl (by (repeat' apply And.intro); all_goals first | exact True.intro | rfl | omega | (simp only [inr]; omega) | (simp only [IntKind.bits]; omega) | exact fun h => h | (intro hq; rw [hq]; rfl) | (simp only [Int.toNat_natCast, dflt_i, dflt_b, dflt_l, dflt_p, Int.toNat_zero, gt_iff_lt, ge_iff_le]; omega) | (simp only [ti3, ti4, ti22, ti41]; omega) | (simp [ti3, ti4, ti22, ti41]; omega) | (simp_all; done) | (simp [SV.cellsL, SV.cells]; done) | (simp [SV.cellsL, SV.cells]; omega)) ?_
  refine sf (containsI_ok l k hl) rfl rfl (by kernel_rfl) rfl (by kernel_rfl) (.cons (by first | exact fs rfl | exact fs_fn .nil (.cons (fs_ptr rfl rfl) .nil) | exact fs_ptr rfl rfl | exact fs_all rfl rfl rfl rfl | exact fs_view rfl rfl (by omega) rfl | exact fs_gview rfl rfl rfl | exact fs_nil rfl | exact fs_view rfl rfl (by simp) (by simp)) (.cons (by first | exact fs rfl | exact fs_fn .nil (.cons (fs_ptr rfl rfl) .nil) | exact fs_ptr rfl rfl | exact fs_all rfl rfl rfl rfl | exact fs_view rfl rfl (by omega) rfl | exact fs_gview rfl rfl rfl | exact fs_nil rfl | exact fs_view rfl rfl (by simp) (by simp)) .nil)) rfl ?_
  iterate 2 refine st (m := false) tabok rfl rfl rfl (by (repeat' apply And.intro); all_goals first | exact True.intro | rfl | omega | (simp only [inr]; omega) | (simp only [IntKind.bits]; omega) | exact fun h => h | (intro hq; rw [hq]; rfl) | (simp only [Int.toNat_natCast, dflt_i, dflt_b, dflt_l, dflt_p, Int.toNat_zero, gt_iff_lt, ge_iff_le]; omega) | (simp only [ti3, ti4, ti22, ti41]; omega) | (simp [ti3, ti4, ti22, ti41]; omega) | (simp_all; done) | (simp [SV.cellsL, SV.cells]; done) | (simp [SV.cellsL, SV.cells]; omega)) ?_
  refine ops_nil ?_
  refine aw_ret ?_
  -- leaf ret
  refine ret_c ?_
  exact fs_bool rfl
def planS (p : List Int) (m : List Mix) : Int := if checkS m ≠ 0 then checkS m else if p.length ≠ m.length then 1 else if withinS p 40 = false then 3 else 0
theorem plan_ok (p : List Int) (m : List Mix) (hm : BigM m) (hp : Big p.length) : CS Try.prog 23 [.row TI64 p, .row TMix m] (.int .i64 (planS p m)) := by
  refine fn_c [4] Try.func23 Try.ntmps23 rfl rfl rfl rfl ?_
  refine aw_seq ?_
  refine aw_reg _ (by kernel_rfl) rfl ?_
  refine st (m := false) tabok rfl rfl rfl (by (repeat' apply And.intro); all_goals first | exact True.intro | rfl | omega | (simp only [inr]; omega) | (simp only [IntKind.bits]; omega) | exact fun h => h | (intro hq; rw [hq]; rfl) | (simp only [Int.toNat_natCast, dflt_i, dflt_b, dflt_l, dflt_p, Int.toNat_zero, gt_iff_lt, ge_iff_le]; omega) | (simp only [ti3, ti4, ti22, ti41]; omega) | (simp [ti3, ti4, ti22, ti41]; omega) | (simp_all; done) | (simp [SV.cellsL, SV.cells]; done) | (simp [SV.cellsL, SV.cells]; omega)) ?_
  refine ops_nil ?_
  refine aw_seq ?_
  refine aw_seq ?_
  refine aw_reg _ (by kernel_rfl) rfl ?_
  refine st (m := false) tabok rfl rfl rfl (by (repeat' apply And.intro); all_goals first | exact True.intro | rfl | omega | (simp only [inr]; omega) | (simp only [IntKind.bits]; omega) | exact fun h => h | (intro hq; rw [hq]; rfl) | (simp only [Int.toNat_natCast, dflt_i, dflt_b, dflt_l, dflt_p, Int.toNat_zero, gt_iff_lt, ge_iff_le]; omega) | (simp only [ti3, ti4, ti22, ti41]; omega) | (simp [ti3, ti4, ti22, ti41]; omega) | (simp_all; done) | (simp [SV.cellsL, SV.cells]; done) | (simp [SV.cellsL, SV.cells]; omega)) ?_
  refine sc (check_ok m hm) rfl rfl (by kernel_rfl) rfl (by kernel_rfl) (.cons (by first | exact argw_same | exact argw_nil | exact argw_tt | exact argw_ff | exact argw_eq rfl) .nil) ?_
  refine st (m := false) tabok rfl rfl rfl (by (repeat' apply And.intro); all_goals first | exact True.intro | rfl | omega | (simp only [inr]; omega) | (simp only [IntKind.bits]; omega) | exact fun h => h | (intro hq; rw [hq]; rfl) | (simp only [Int.toNat_natCast, dflt_i, dflt_b, dflt_l, dflt_p, Int.toNat_zero, gt_iff_lt, ge_iff_le]; omega) | (simp only [ti3, ti4, ti22, ti41]; omega) | (simp [ti3, ti4, ti22, ti41]; omega) | (simp_all; done) | (simp [SV.cellsL, SV.cells]; done) | (simp [SV.cellsL, SV.cells]; omega)) ?_
  refine ops_nil ?_
  refine aw_block ?_
  refine aw_seq ?_
  refine aw_reg _ (by kernel_rfl) rfl ?_
  iterate 3 refine st (m := false) tabok rfl rfl rfl (by (repeat' apply And.intro); all_goals first | exact True.intro | rfl | omega | (simp only [inr]; omega) | (simp only [IntKind.bits]; omega) | exact fun h => h | (intro hq; rw [hq]; rfl) | (simp only [Int.toNat_natCast, dflt_i, dflt_b, dflt_l, dflt_p, Int.toNat_zero, gt_iff_lt, ge_iff_le]; omega) | (simp only [ti3, ti4, ti22, ti41]; omega) | (simp [ti3, ti4, ti22, ti41]; omega) | (simp_all; done) | (simp [SV.cellsL, SV.cells]; done) | (simp [SV.cellsL, SV.cells]; omega)) ?_
  refine ops_nil ?_
  refine aw_if rfl (fun c2 => ?_) (fun c2 => ?_)
  · try simp only [Bool.or_eq_true, Bool.and_eq_true, Bool.not_eq_true', Bool.not_eq_false', Bool.or_eq_false_iff, Bool.and_eq_false_imp, decide_eq_true_eq, decide_eq_false_iff_not, Bool.not_true, Bool.not_false, beq_iff_eq, Bool.not_eq_true, Bool.not_eq_false, Bool.true_eq_false, Bool.false_eq_true, not_or, Decidable.not_not, ne_eq] at c2
    try simp only [Int.toNat_natCast, dflt_i, dflt_b, dflt_l, dflt_p, Int.toNat_zero, gt_iff_lt, ge_iff_le] at c2
    refine aw_seq ?_
    refine aw_reg _ (by kernel_rfl) rfl ?_
    iterate 2 refine st (m := false) tabok rfl rfl rfl (by (repeat' apply And.intro); all_goals first | exact True.intro | rfl | omega | (simp only [inr]; omega) | (simp only [IntKind.bits]; omega) | exact fun h => h | (intro hq; rw [hq]; rfl) | (simp only [Int.toNat_natCast, dflt_i, dflt_b, dflt_l, dflt_p, Int.toNat_zero, gt_iff_lt, ge_iff_le]; omega) | (simp only [ti3, ti4, ti22, ti41]; omega) | (simp [ti3, ti4, ti22, ti41]; omega) | (simp_all; done) | (simp [SV.cellsL, SV.cells]; done) | (simp [SV.cellsL, SV.cells]; omega)) ?_
    refine ops_nil ?_
    refine aw_ret ?_
    -- leaf ret.2t
    refine ret_c ?_
    exact fs_int (by rw [planS, if_pos c2])
  · try simp only [Bool.or_eq_true, Bool.and_eq_true, Bool.not_eq_true', Bool.not_eq_false', Bool.or_eq_false_iff, Bool.and_eq_false_imp, decide_eq_true_eq, decide_eq_false_iff_not, Bool.not_true, Bool.not_false, beq_iff_eq, Bool.not_eq_true, Bool.not_eq_false, Bool.true_eq_false, Bool.false_eq_true, not_or, Decidable.not_not, ne_eq] at c2
    try simp only [Int.toNat_natCast, dflt_i, dflt_b, dflt_l, dflt_p, Int.toNat_zero, gt_iff_lt, ge_iff_le] at c2
    refine aw_seq ?_
    refine aw_reg _ (by kernel_rfl) rfl ?_
    iterate 6 refine st (m := false) tabok rfl rfl rfl (by (repeat' apply And.intro); all_goals first | exact True.intro | rfl | omega | (simp only [inr]; omega) | (simp only [IntKind.bits]; omega) | exact fun h => h | (intro hq; rw [hq]; rfl) | (simp only [Int.toNat_natCast, dflt_i, dflt_b, dflt_l, dflt_p, Int.toNat_zero, gt_iff_lt, ge_iff_le]; omega) | (simp only [ti3, ti4, ti22, ti41]; omega) | (simp [ti3, ti4, ti22, ti41]; omega) | (simp_all; done) | (simp [SV.cellsL, SV.cells]; done) | (simp [SV.cellsL, SV.cells]; omega)) ?_
    refine ops_nil ?_
    refine aw_if rfl (fun c4 => ?_) (fun c4 => ?_)
    · try simp only [Bool.or_eq_true, Bool.and_eq_true, Bool.not_eq_true', Bool.not_eq_false', Bool.or_eq_false_iff, Bool.and_eq_false_imp, decide_eq_true_eq, decide_eq_false_iff_not, Bool.not_true, Bool.not_false, beq_iff_eq, Bool.not_eq_true, Bool.not_eq_false, Bool.true_eq_false, Bool.false_eq_true, not_or, Decidable.not_not, ne_eq] at c4
      try simp only [Int.toNat_natCast, dflt_i, dflt_b, dflt_l, dflt_p, Int.toNat_zero, gt_iff_lt, ge_iff_le] at c4
      refine aw_seq ?_
      refine aw_reg _ (by kernel_rfl) rfl ?_
      refine st (m := false) tabok rfl rfl rfl (by (repeat' apply And.intro); all_goals first | exact True.intro | rfl | omega | (simp only [inr]; omega) | (simp only [IntKind.bits]; omega) | exact fun h => h | (intro hq; rw [hq]; rfl) | (simp only [Int.toNat_natCast, dflt_i, dflt_b, dflt_l, dflt_p, Int.toNat_zero, gt_iff_lt, ge_iff_le]; omega) | (simp only [ti3, ti4, ti22, ti41]; omega) | (simp [ti3, ti4, ti22, ti41]; omega) | (simp_all; done) | (simp [SV.cellsL, SV.cells]; done) | (simp [SV.cellsL, SV.cells]; omega)) ?_
      refine ops_nil ?_
      refine aw_ret ?_
      -- leaf ret.2f.4t
      refine ret_c ?_
      exact fs_int (by rw [planS, if_neg (by omega), if_pos (by omega)])
    · try simp only [Bool.or_eq_true, Bool.and_eq_true, Bool.not_eq_true', Bool.not_eq_false', Bool.or_eq_false_iff, Bool.and_eq_false_imp, decide_eq_true_eq, decide_eq_false_iff_not, Bool.not_true, Bool.not_false, beq_iff_eq, Bool.not_eq_true, Bool.not_eq_false, Bool.true_eq_false, Bool.false_eq_true, not_or, Decidable.not_not, ne_eq] at c4
      try simp only [Int.toNat_natCast, dflt_i, dflt_b, dflt_l, dflt_p, Int.toNat_zero, gt_iff_lt, ge_iff_le] at c4
      refine aw_seq ?_
      refine aw_reg _ (by kernel_rfl) rfl ?_
      refine st (m := false) tabok rfl rfl rfl (by (repeat' apply And.intro); all_goals first | exact True.intro | rfl | omega | (simp only [inr]; omega) | (simp only [IntKind.bits]; omega) | exact fun h => h | (intro hq; rw [hq]; rfl) | (simp only [Int.toNat_natCast, dflt_i, dflt_b, dflt_l, dflt_p, Int.toNat_zero, gt_iff_lt, ge_iff_le]; omega) | (simp only [ti3, ti4, ti22, ti41]; omega) | (simp [ti3, ti4, ti22, ti41]; omega) | (simp_all; done) | (simp [SV.cellsL, SV.cells]; done) | (simp [SV.cellsL, SV.cells]; omega)) ?_
      refine sc (within_ok p 40 hp) rfl rfl (by kernel_rfl) rfl (by kernel_rfl) (.cons (by first | exact argw_same | exact argw_nil | exact argw_tt | exact argw_ff | exact argw_eq rfl) (.cons (by first | exact argw_same | exact argw_nil | exact argw_tt | exact argw_ff | exact argw_eq rfl) .nil)) ?_
      iterate 2 refine st (m := false) tabok rfl rfl rfl (by (repeat' apply And.intro); all_goals first | exact True.intro | rfl | omega | (simp only [inr]; omega) | (simp only [IntKind.bits]; omega) | exact fun h => h | (intro hq; rw [hq]; rfl) | (simp only [Int.toNat_natCast, dflt_i, dflt_b, dflt_l, dflt_p, Int.toNat_zero, gt_iff_lt, ge_iff_le]; omega) | (simp only [ti3, ti4, ti22, ti41]; omega) | (simp [ti3, ti4, ti22, ti41]; omega) | (simp_all; done) | (simp [SV.cellsL, SV.cells]; done) | (simp [SV.cellsL, SV.cells]; omega)) ?_
      refine ops_nil ?_
      refine aw_if rfl (fun c6 => ?_) (fun c6 => ?_)
      · try simp only [Bool.or_eq_true, Bool.and_eq_true, Bool.not_eq_true', Bool.not_eq_false', Bool.or_eq_false_iff, Bool.and_eq_false_imp, decide_eq_true_eq, decide_eq_false_iff_not, Bool.not_true, Bool.not_false, beq_iff_eq, Bool.not_eq_true, Bool.not_eq_false, Bool.true_eq_false, Bool.false_eq_true, not_or, Decidable.not_not, ne_eq] at c6
        try simp only [Int.toNat_natCast, dflt_i, dflt_b, dflt_l, dflt_p, Int.toNat_zero, gt_iff_lt, ge_iff_le] at c6
        refine aw_seq ?_
        refine aw_reg _ (by kernel_rfl) rfl ?_
        refine st (m := false) tabok rfl rfl rfl (by (repeat' apply And.intro); all_goals first | exact True.intro | rfl | omega | (simp only [inr]; omega) | (simp only [IntKind.bits]; omega) | exact fun h => h | (intro hq; rw [hq]; rfl) | (simp only [Int.toNat_natCast, dflt_i, dflt_b, dflt_l, dflt_p, Int.toNat_zero, gt_iff_lt, ge_iff_le]; omega) | (simp only [ti3, ti4, ti22, ti41]; omega) | (simp [ti3, ti4, ti22, ti41]; omega) | (simp_all; done) | (simp [SV.cellsL, SV.cells]; done) | (simp [SV.cellsL, SV.cells]; omega)) ?_
        refine ops_nil ?_
        refine aw_ret ?_
        -- leaf ret.2f.4f.6t
        refine ret_c ?_
        exact fs_int (by rw [planS, if_neg (by omega), if_neg (by omega), if_pos c6])
      · try simp only [Bool.or_eq_true, Bool.and_eq_true, Bool.not_eq_true', Bool.not_eq_false', Bool.or_eq_false_iff, Bool.and_eq_false_imp, decide_eq_true_eq, decide_eq_false_iff_not, Bool.not_true, Bool.not_false, beq_iff_eq, Bool.not_eq_true, Bool.not_eq_false, Bool.true_eq_false, Bool.false_eq_true, not_or, Decidable.not_not, ne_eq] at c6
        try simp only [Int.toNat_natCast, dflt_i, dflt_b, dflt_l, dflt_p, Int.toNat_zero, gt_iff_lt, ge_iff_le] at c6
        refine aw_skip ?_
        refine aw_seq ?_
        refine aw_reg _ (by kernel_rfl) rfl ?_
        refine st (m := false) tabok rfl rfl rfl (by (repeat' apply And.intro); all_goals first | exact True.intro | rfl | omega | (simp only [inr]; omega) | (simp only [IntKind.bits]; omega) | exact fun h => h | (intro hq; rw [hq]; rfl) | (simp only [Int.toNat_natCast, dflt_i, dflt_b, dflt_l, dflt_p, Int.toNat_zero, gt_iff_lt, ge_iff_le]; omega) | (simp only [ti3, ti4, ti22, ti41]; omega) | (simp [ti3, ti4, ti22, ti41]; omega) | (simp_all; done) | (simp [SV.cellsL, SV.cells]; done) | (simp [SV.cellsL, SV.cells]; omega)) ?_
        refine ops_nil ?_
        refine aw_ret ?_
        -- leaf ret.2f.4f.6f
        refine ret_c ?_
        exact fs_int (by rw [planS, if_neg (by omega), if_neg (by omega), if_neg (by simp [c6])])
/-- What plies of the first mixes make of a size, and take. -/
def made (p : List Int) (m : List Mix) (s : Nat) : Nat → Int
  | 0 => 0
  | i + 1 => made p m s i + p.getD i 0 * (m.getD i ([], 0)).1.getD s 0
def cost (p : List Int) (m : List Mix) : Nat → Int
  | 0 => 0
  | i + 1 => cost p m i + p.getD i 0 * (m.getD i ([], 0)).2
structure Fine (m : List Mix) : Prop where
  len : m.length ≤ 6
  wid : sizesS m ≤ 12
  cnt : ∀ i, i < m.length → (m.getD i ([], 0)).1.length = sizesS m
  num : ∀ i s, i < m.length → s < sizesS m → 0 ≤ (m.getD i ([], 0)).1.getD s 0 ∧ (m.getD i ([], 0)).1.getD s 0 ≤ 6
  lng : ∀ i, i < m.length → 1 ≤ (m.getD i ([], 0)).2 ∧ (m.getD i ([], 0)).2 ≤ 1048576
theorem fine_of {m : List Mix} (h : checkS m = 0) : Fine m := by
  unfold checkS at h
  split at h
  · omega
  · rename_i h1
    split at h
    · rename_i ha
      have hx := fun i (hi : i < m.length) => all_get ([], 0) ha hi
      simp only [Bool.and_eq_true, decide_eq_true_eq, validS] at hx
      have hcnt : ∀ i, i < m.length → (m.getD i ([], 0)).1.length = sizesS m := fun i hi => (hx i hi).1
      have hlong : m.any longM = false := by
        cases hq : m.any longM with
        | false => rfl
        | true => exact absurd (.inr hq) h1
      refine ⟨by omega, ?_, hcnt, fun i s hi hs => ?_, fun i hi => ?_⟩
      · rcases Nat.eq_zero_or_pos m.length with h0 | h0
        · have : m = [] := List.eq_nil_of_length_eq_zero h0
          subst this
          simp [sizesS]
        · have := any_get ([], 0) hlong h0
          simp only [longM, decide_eq_false_iff_not] at this
          simp only [sizesS]
          omega
      · have := all_get 0 (hx i hi).2.1 (i := s) (by rw [hcnt i hi]; exact hs)
        simp only [okN, Bool.and_eq_true, decide_eq_true_eq] at this
        exact this
      · have := (hx i hi).2.2
        omega
    · omega
structure Plies (p : List Int) (m : List Mix) : Prop where
  fine : Fine m
  len : p.length = m.length
  rng : ∀ i, i < m.length → 0 ≤ p.getD i 0 ∧ p.getD i 0 ≤ 40
theorem within_get {l : List Int} {k : Int} (h : withinS l k = true) {i : Nat} (hi : i < l.length) : 0 ≤ l.getD i 0 ∧ l.getD i 0 ≤ k := by
  simp only [withinS, Bool.not_eq_true'] at h
  have := any_get 0 h hi
  simp only [inB, Bool.or_eq_false_iff, decide_eq_false_iff_not] at this
  omega
theorem plies_of {p : List Int} {m : List Mix} (h : planS p m = 0) : Plies p m := by
  unfold planS at h
  split at h
  · omega
  · split at h
    · omega
    · split at h
      · omega
      · rename_i h1 h2 h3
        refine ⟨fine_of (by omega), by omega, fun i hi => within_get (by simpa using h3) (by omega)⟩
theorem mul_le {a b c d : Int} (ha : 0 ≤ a ∧ a ≤ c) (hb : 0 ≤ b ∧ b ≤ d) : 0 ≤ a * b ∧ a * b ≤ c * d :=
  ⟨Int.mul_nonneg ha.1 hb.1, Int.mul_le_mul ha.2 hb.2 hb.1 (by omega)⟩
theorem made_le {p : List Int} {m : List Mix} (h : Plies p m) {s : Nat} (hs : s < sizesS m) : ∀ i, i ≤ m.length → 0 ≤ made p m s i ∧ made p m s i ≤ 240 * i
  | 0, _ => by simp [made]
  | i + 1, hi => by
    have h1 := made_le h hs i (by omega)
    have h2 := mul_le (h.rng i (by omega)) (h.fine.num i s (by omega) hs)
    simp only [made]
    omega
theorem cost_le {p : List Int} {m : List Mix} (h : Plies p m) : ∀ i, i ≤ m.length → 0 ≤ cost p m i ∧ cost p m i ≤ 41943040 * i
  | 0, _ => by simp [cost]
  | i + 1, hi => by
    have h1 := cost_le h i (by omega)
    have h3 := h.fine.lng i (by omega)
    have h2 := mul_le (h.rng i (by omega)) (d := 1048576) ⟨by omega, h3.2⟩
    simp only [cost]
    omega
def prodL (p : List Int) (m : List Mix) : List Int := (List.range (sizesS m)).map fun s => made p m s m.length
def prodS (p : List Int) (m : List Mix) : List Int := if planS p m = 0 then prodL p m else []
def costS (p : List Int) (m : List Mix) : Int := if planS p m = 0 then cost p m m.length else 0
theorem cost_ok (p : List Int) (m : List Mix) (hm : BigM m) (hp : Big p.length) : CS Try.prog 13 [.row TI64 p, .row TMix m] (.tup [.int .i64 (costS p m), .int .i64 (planS p m)]) := by
  refine fn_c [4, 5] Try.func13 Try.ntmps13 rfl rfl rfl rfl ?_
  refine aw_seq ?_
  refine aw_reg _ (by kernel_rfl) rfl ?_
  iterate 2 refine st (m := false) tabok rfl rfl rfl (by (repeat' apply And.intro); all_goals first | exact True.intro | rfl | omega | (simp only [inr]; omega) | (simp only [IntKind.bits]; omega) | exact fun h => h | (intro hq; rw [hq]; rfl) | (simp only [Int.toNat_natCast, dflt_i, dflt_b, dflt_l, dflt_p, Int.toNat_zero, gt_iff_lt, ge_iff_le]; omega) | (simp only [ti3, ti4, ti22, ti41]; omega) | (simp [ti3, ti4, ti22, ti41]; omega) | (simp_all; done) | (simp [SV.cellsL, SV.cells]; done) | (simp [SV.cellsL, SV.cells]; omega)) ?_
  refine ops_nil ?_
  refine aw_seq ?_
  refine aw_seq ?_
  refine aw_reg _ (by kernel_rfl) rfl ?_
  iterate 2 refine st (m := false) tabok rfl rfl rfl (by (repeat' apply And.intro); all_goals first | exact True.intro | rfl | omega | (simp only [inr]; omega) | (simp only [IntKind.bits]; omega) | exact fun h => h | (intro hq; rw [hq]; rfl) | (simp only [Int.toNat_natCast, dflt_i, dflt_b, dflt_l, dflt_p, Int.toNat_zero, gt_iff_lt, ge_iff_le]; omega) | (simp only [ti3, ti4, ti22, ti41]; omega) | (simp [ti3, ti4, ti22, ti41]; omega) | (simp_all; done) | (simp [SV.cellsL, SV.cells]; done) | (simp [SV.cellsL, SV.cells]; omega)) ?_
  refine sc (plan_ok p m hm hp) rfl rfl (by kernel_rfl) rfl (by kernel_rfl) (.cons (by first | exact argw_same | exact argw_nil | exact argw_tt | exact argw_ff | exact argw_eq rfl) (.cons (by first | exact argw_same | exact argw_nil | exact argw_tt | exact argw_ff | exact argw_eq rfl) .nil)) ?_
  refine st (m := false) tabok rfl rfl rfl (by (repeat' apply And.intro); all_goals first | exact True.intro | rfl | omega | (simp only [inr]; omega) | (simp only [IntKind.bits]; omega) | exact fun h => h | (intro hq; rw [hq]; rfl) | (simp only [Int.toNat_natCast, dflt_i, dflt_b, dflt_l, dflt_p, Int.toNat_zero, gt_iff_lt, ge_iff_le]; omega) | (simp only [ti3, ti4, ti22, ti41]; omega) | (simp [ti3, ti4, ti22, ti41]; omega) | (simp_all; done) | (simp [SV.cellsL, SV.cells]; done) | (simp [SV.cellsL, SV.cells]; omega)) ?_
  refine ops_nil ?_
  refine aw_seq ?_
  refine aw_reg _ (by kernel_rfl) rfl ?_
  iterate 2 refine st (m := false) tabok rfl rfl rfl (by (repeat' apply And.intro); all_goals first | exact True.intro | rfl | omega | (simp only [inr]; omega) | (simp only [IntKind.bits]; omega) | exact fun h => h | (intro hq; rw [hq]; rfl) | (simp only [Int.toNat_natCast, dflt_i, dflt_b, dflt_l, dflt_p, Int.toNat_zero, gt_iff_lt, ge_iff_le]; omega) | (simp only [ti3, ti4, ti22, ti41]; omega) | (simp [ti3, ti4, ti22, ti41]; omega) | (simp_all; done) | (simp [SV.cellsL, SV.cells]; done) | (simp [SV.cellsL, SV.cells]; omega)) ?_
  refine ops_nil ?_
  refine aw_if rfl (fun c2 => ?_) (fun c2 => ?_)
  · try simp only [Bool.or_eq_true, Bool.and_eq_true, Bool.not_eq_true', Bool.not_eq_false', Bool.or_eq_false_iff, Bool.and_eq_false_imp, decide_eq_true_eq, decide_eq_false_iff_not, Bool.not_true, Bool.not_false, beq_iff_eq, Bool.not_eq_true, Bool.not_eq_false, Bool.true_eq_false, Bool.false_eq_true, not_or, Decidable.not_not, ne_eq] at c2
    try simp only [Int.toNat_natCast, dflt_i, dflt_b, dflt_l, dflt_p, Int.toNat_zero, gt_iff_lt, ge_iff_le] at c2
    refine aw_seq ?_
    refine aw_reg _ (by kernel_rfl) rfl ?_
    iterate 3 refine st (m := false) tabok rfl rfl rfl (by (repeat' apply And.intro); all_goals first | exact True.intro | rfl | omega | (simp only [inr]; omega) | (simp only [IntKind.bits]; omega) | exact fun h => h | (intro hq; rw [hq]; rfl) | (simp only [Int.toNat_natCast, dflt_i, dflt_b, dflt_l, dflt_p, Int.toNat_zero, gt_iff_lt, ge_iff_le]; omega) | (simp only [ti3, ti4, ti22, ti41]; omega) | (simp [ti3, ti4, ti22, ti41]; omega) | (simp_all; done) | (simp [SV.cellsL, SV.cells]; done) | (simp [SV.cellsL, SV.cells]; omega)) ?_
    refine ops_nil ?_
    refine aw_ret ?_
    -- leaf ret.2t
    refine ret_c ?_
    exact fs_tup (.cons (fs_int (by rw [costS, if_neg c2])) (.cons (fs rfl) .nil))
  · try simp only [Bool.or_eq_true, Bool.and_eq_true, Bool.not_eq_true', Bool.not_eq_false', Bool.or_eq_false_iff, Bool.and_eq_false_imp, decide_eq_true_eq, decide_eq_false_iff_not, Bool.not_true, Bool.not_false, beq_iff_eq, Bool.not_eq_true, Bool.not_eq_false, Bool.true_eq_false, Bool.false_eq_true, not_or, Decidable.not_not, ne_eq] at c2
    try simp only [Int.toNat_natCast, dflt_i, dflt_b, dflt_l, dflt_p, Int.toNat_zero, gt_iff_lt, ge_iff_le] at c2
    refine aw_skip ?_
    refine aw_seq ?_
    refine aw_reg _ (by kernel_rfl) rfl ?_
    refine st (m := false) tabok rfl rfl rfl (by (repeat' apply And.intro); all_goals first | exact True.intro | rfl | omega | (simp only [inr]; omega) | (simp only [IntKind.bits]; omega) | exact fun h => h | (intro hq; rw [hq]; rfl) | (simp only [Int.toNat_natCast, dflt_i, dflt_b, dflt_l, dflt_p, Int.toNat_zero, gt_iff_lt, ge_iff_le]; omega) | (simp only [ti3, ti4, ti22, ti41]; omega) | (simp [ti3, ti4, ti22, ti41]; omega) | (simp_all; done) | (simp [SV.cellsL, SV.cells]; done) | (simp [SV.cellsL, SV.cells]; omega)) ?_
    refine ops_nil ?_
    refine aw_seq ?_
    refine aw_seq ?_
    refine aw_reg _ (by kernel_rfl) rfl ?_
    iterate 3 refine st (m := false) tabok rfl rfl rfl (by (repeat' apply And.intro); all_goals first | exact True.intro | rfl | omega | (simp only [inr]; omega) | (simp only [IntKind.bits]; omega) | exact fun h => h | (intro hq; rw [hq]; rfl) | (simp only [Int.toNat_natCast, dflt_i, dflt_b, dflt_l, dflt_p, Int.toNat_zero, gt_iff_lt, ge_iff_le]; omega) | (simp only [ti3, ti4, ti22, ti41]; omega) | (simp [ti3, ti4, ti22, ti41]; omega) | (simp_all; done) | (simp [SV.cellsL, SV.cells]; done) | (simp [SV.cellsL, SV.cells]; omega)) ?_
    refine ops_nil ?_
    refine aw_block ?_
    refine aw_loop (X := (Nat)) (fun (i : Nat) => outT (look [(0, .row TI64 p), (7, .int .i64 (cost p m i)), (16, .row TMix m), (17, .int .i64 m.length), (18, .int .i64 i)])) (fun (i : Nat) => outS []) (fun (i : Nat) => (i ≤ m.length) ∧ (Plies p m) ∧ (planS p m = 0)) (fun (i : Nat) => m.length - i) (0) ?_ ?_ ?_
    -- leaf L0:entry.2f
    · exact goes_to (tm := _) (st := _) [] rfl rfl True.intro ⟨(by first | exact sk rfl rfl | exact sk (q_int (by omega)) rfl | exact sk (q_bool (by simp)) rfl | exact sk (q_view rfl rfl rfl (by omega)) rfl | exact sk (q_gview rfl (by simp)) rfl | exact sk (q_nil rfl) rfl | exact sk (q_row (by simp)) rfl | exact sk_g rfl rfl rfl rfl | exact sk_v rfl rfl rfl rfl rfl | exact sk_n rfl), (by first | exact sk rfl rfl | exact sk (q_int (by omega)) rfl | exact sk (q_bool (by simp)) rfl | exact sk (q_view rfl rfl rfl (by omega)) rfl | exact sk (q_gview rfl (by simp)) rfl | exact sk (q_nil rfl) rfl | exact sk (q_row (by simp)) rfl | exact sk_g rfl rfl rfl rfl | exact sk_v rfl rfl rfl rfl rfl | exact sk_n rfl), (by first | exact sk rfl rfl | exact sk (q_int (by omega)) rfl | exact sk (q_bool (by simp)) rfl | exact sk (q_view rfl rfl rfl (by omega)) rfl | exact sk (q_gview rfl (by simp)) rfl | exact sk (q_nil rfl) rfl | exact sk (q_row (by simp)) rfl | exact sk_g rfl rfl rfl rfl | exact sk_v rfl rfl rfl rfl rfl | exact sk_n rfl), (by first | exact sk rfl rfl | exact sk (q_int (by omega)) rfl | exact sk (q_bool (by simp)) rfl | exact sk (q_view rfl rfl rfl (by omega)) rfl | exact sk (q_gview rfl (by simp)) rfl | exact sk (q_nil rfl) rfl | exact sk (q_row (by simp)) rfl | exact sk_g rfl rfl rfl rfl | exact sk_v rfl rfl rfl rfl rfl | exact sk_n rfl), (by first | exact sk rfl rfl | exact sk (q_int (by omega)) rfl | exact sk (q_bool (by simp)) rfl | exact sk (q_view rfl rfl rfl (by omega)) rfl | exact sk (q_gview rfl (by simp)) rfl | exact sk (q_nil rfl) rfl | exact sk (q_row (by simp)) rfl | exact sk_g rfl rfl rfl rfl | exact sk_v rfl rfl rfl rfl rfl | exact sk_n rfl), True.intro⟩
    · exact ⟨by omega, plies_of (by omega), by omega⟩
    · skip
      rintro i ⟨hi, hP, h0⟩
      change awpB _ _ _ _ _ (outT (look [(0, .row TI64 p), (7, .int .i64 (cost p m i)), (16, .row TMix m), (17, .int .i64 m.length), (18, .int .i64 i)])) (outS [])
      have h1 := hP.len
      have h2 := hP.fine.len
      refine aw_seq ?_
      refine aw_reg _ (by kernel_rfl) rfl ?_
      refine st (m := false) tabok rfl rfl rfl (by (repeat' apply And.intro); all_goals first | exact True.intro | rfl | omega | (simp only [inr]; omega) | (simp only [IntKind.bits]; omega) | exact fun h => h | (intro hq; rw [hq]; rfl) | (simp only [Int.toNat_natCast, dflt_i, dflt_b, dflt_l, dflt_p, Int.toNat_zero, gt_iff_lt, ge_iff_le]; omega) | (simp only [ti3, ti4, ti22, ti41]; omega) | (simp [ti3, ti4, ti22, ti41]; omega) | (simp_all; done) | (simp [SV.cellsL, SV.cells]; done) | (simp [SV.cellsL, SV.cells]; omega)) ?_
      refine ops_nil ?_
      refine aw_seq ?_
      refine aw_if rfl (fun c6 => ?_) (fun c6 => ?_)
      · try simp only [Bool.or_eq_true, Bool.and_eq_true, Bool.not_eq_true', Bool.not_eq_false', Bool.or_eq_false_iff, Bool.and_eq_false_imp, decide_eq_true_eq, decide_eq_false_iff_not, Bool.not_true, Bool.not_false, beq_iff_eq, Bool.not_eq_true, Bool.not_eq_false, Bool.true_eq_false, Bool.false_eq_true, not_or, Decidable.not_not, ne_eq] at c6
        try simp only [Int.toNat_natCast, dflt_i, dflt_b, dflt_l, dflt_p, Int.toNat_zero, gt_iff_lt, ge_iff_le] at c6
        have h3 := cost_le hP i (by omega)
        have h4 := hP.fine.lng i (by omega)
        have h5 := mul_le (hP.rng i (by omega)) (d := 1048576) ⟨by omega, h4.2⟩
        refine aw_skip ?_
        refine aw_seq ?_
        refine aw_block ?_
        refine aw_seq ?_
        refine aw_reg _ (by kernel_rfl) rfl ?_
        iterate 5 refine st (m := false) tabok rfl rfl rfl (by (repeat' apply And.intro); all_goals first | exact True.intro | rfl | omega | (simp only [inr]; omega) | (simp only [IntKind.bits]; omega) | exact fun h => h | (intro hq; rw [hq]; rfl) | (simp only [Int.toNat_natCast, dflt_i, dflt_b, dflt_l, dflt_p, Int.toNat_zero, gt_iff_lt, ge_iff_le]; omega) | (simp only [ti3, ti4, ti22, ti41]; omega) | (simp [ti3, ti4, ti22, ti41]; omega) | (simp_all; done) | (simp [SV.cellsL, SV.cells]; done) | (simp [SV.cellsL, SV.cells]; omega)) ?_
        refine st0 (m := false) tabok rfl rfl rfl (by (repeat' apply And.intro); all_goals first | exact True.intro | rfl | omega | (simp only [inr]; omega) | (simp only [IntKind.bits]; omega) | exact fun h => h | (intro hq; rw [hq]; rfl) | (simp only [Int.toNat_natCast, dflt_i, dflt_b, dflt_l, dflt_p, Int.toNat_zero, gt_iff_lt, ge_iff_le]; omega) | (simp only [ti3, ti4, ti22, ti41]; omega) | (simp [ti3, ti4, ti22, ti41]; omega) | (simp_all; done) | (simp [SV.cellsL, SV.cells]; done) | (simp [SV.cellsL, SV.cells]; omega)) ?_
        refine ops_nil ?_
        refine aw_regD true _ (by kernel_rfl) (by kernel_rfl) (by kernel_rfl) rfl ?_
        iterate 10 refine sd (m := false) tabok rfl rfl rfl (by (repeat' apply And.intro); all_goals first | exact True.intro | rfl | omega | (simp only [inr]; omega) | (simp only [IntKind.bits]; omega) | exact fun h => h | (intro hq; rw [hq]; rfl) | (simp only [Int.toNat_natCast, dflt_i, dflt_b, dflt_l, dflt_p, Int.toNat_zero, gt_iff_lt, ge_iff_le]; omega) | (simp only [ti3, ti4, ti22, ti41]; omega) | (simp [ti3, ti4, ti22, ti41]; omega) | (simp_all; done) | (simp [SV.cellsL, SV.cells]; done) | (simp [SV.cellsL, SV.cells]; omega)) ?_
        refine opd_nil ?_
        refine aw_reg _ (by kernel_rfl) rfl ?_
        iterate 2 refine st (m := false) tabok rfl rfl rfl (by (repeat' apply And.intro); all_goals first | exact True.intro | rfl | omega | (simp only [inr]; omega) | (simp only [IntKind.bits]; omega) | exact fun h => h | (intro hq; rw [hq]; rfl) | (simp only [Int.toNat_natCast, dflt_i, dflt_b, dflt_l, dflt_p, Int.toNat_zero, gt_iff_lt, ge_iff_le]; omega) | (simp only [ti3, ti4, ti22, ti41]; omega) | (simp [ti3, ti4, ti22, ti41]; omega) | (simp_all; done) | (simp [SV.cellsL, SV.cells]; done) | (simp [SV.cellsL, SV.cells]; omega)) ?_
        refine ops_nil ?_
        -- leaf L0.6t
        refine Exists.intro (i + 1) ⟨?_, ?_, ?_⟩
        · exact goes_to (tm := _) (st := _) [] rfl rfl True.intro ⟨(by first | exact sk rfl rfl | exact sk (q_int (by omega)) rfl | exact sk (q_bool (by simp)) rfl | exact sk (q_view rfl rfl rfl (by omega)) rfl | exact sk (q_gview rfl (by simp)) rfl | exact sk (q_nil rfl) rfl | exact sk (q_row (by simp)) rfl | exact sk_g rfl rfl rfl rfl | exact sk_v rfl rfl rfl rfl rfl | exact sk_n rfl), (by first | exact sk rfl rfl | exact sk (q_int (by omega)) rfl | exact sk (q_bool (by simp)) rfl | exact sk (q_view rfl rfl rfl (by omega)) rfl | exact sk (q_gview rfl (by simp)) rfl | exact sk (q_nil rfl) rfl | exact sk (q_row (by simp)) rfl | exact sk_g rfl rfl rfl rfl | exact sk_v rfl rfl rfl rfl rfl | exact sk_n rfl), (by first | exact sk rfl rfl | exact sk (q_int (by omega)) rfl | exact sk (q_bool (by simp)) rfl | exact sk (q_view rfl rfl rfl (by omega)) rfl | exact sk (q_gview rfl (by simp)) rfl | exact sk (q_nil rfl) rfl | exact sk (q_row (by simp)) rfl | exact sk_g rfl rfl rfl rfl | exact sk_v rfl rfl rfl rfl rfl | exact sk_n rfl), (by first | exact sk rfl rfl | exact sk (q_int (by omega)) rfl | exact sk (q_bool (by simp)) rfl | exact sk (q_view rfl rfl rfl (by omega)) rfl | exact sk (q_gview rfl (by simp)) rfl | exact sk (q_nil rfl) rfl | exact sk (q_row (by simp)) rfl | exact sk_g rfl rfl rfl rfl | exact sk_v rfl rfl rfl rfl rfl | exact sk_n rfl), (by first | exact sk rfl rfl | exact sk (q_int (by omega)) rfl | exact sk (q_bool (by simp)) rfl | exact sk (q_view rfl rfl rfl (by omega)) rfl | exact sk (q_gview rfl (by simp)) rfl | exact sk (q_nil rfl) rfl | exact sk (q_row (by simp)) rfl | exact sk_g rfl rfl rfl rfl | exact sk_v rfl rfl rfl rfl rfl | exact sk_n rfl), True.intro⟩
        · try dsimp only
          exact ⟨by omega, hP, h0⟩
        · (try dsimp only); omega
      · try simp only [Bool.or_eq_true, Bool.and_eq_true, Bool.not_eq_true', Bool.not_eq_false', Bool.or_eq_false_iff, Bool.and_eq_false_imp, decide_eq_true_eq, decide_eq_false_iff_not, Bool.not_true, Bool.not_false, beq_iff_eq, Bool.not_eq_true, Bool.not_eq_false, Bool.true_eq_false, Bool.false_eq_true, not_or, Decidable.not_not, ne_eq] at c6
        try simp only [Int.toNat_natCast, dflt_i, dflt_b, dflt_l, dflt_p, Int.toNat_zero, gt_iff_lt, ge_iff_le] at c6
        refine aw_exit ?_
        refine aw_seq ?_
        refine aw_reg _ (by kernel_rfl) rfl ?_
        iterate 3 refine st (m := false) tabok rfl rfl rfl (by (repeat' apply And.intro); all_goals first | exact True.intro | rfl | omega | (simp only [inr]; omega) | (simp only [IntKind.bits]; omega) | exact fun h => h | (intro hq; rw [hq]; rfl) | (simp only [Int.toNat_natCast, dflt_i, dflt_b, dflt_l, dflt_p, Int.toNat_zero, gt_iff_lt, ge_iff_le]; omega) | (simp only [ti3, ti4, ti22, ti41]; omega) | (simp [ti3, ti4, ti22, ti41]; omega) | (simp_all; done) | (simp [SV.cellsL, SV.cells]; done) | (simp [SV.cellsL, SV.cells]; omega)) ?_
        refine ops_nil ?_
        refine aw_ret ?_
        -- leaf ret.6f
        refine ret_c ?_
        have hh : i = m.length := by omega
        subst hh
        exact fs_tup (.cons (fs_int (by rw [costS, if_pos h0])) (.cons (fs_int h0.symm) .nil))
theorem produced_ok (p : List Int) (m : List Mix) (hm : BigM m) (hp : Big p.length) : CS Try.prog 11 [.row TI64 p, .row TMix m] (.tup [.row TI64 (prodS p m), .int .i64 (planS p m)]) := by
  refine fn_c [4, 5] Try.func11 Try.ntmps11 rfl rfl rfl rfl ?_
  refine aw_seq ?_
  refine aw_reg _ (by kernel_rfl) rfl ?_
  iterate 2 refine st (m := false) tabok rfl rfl rfl (by (repeat' apply And.intro); all_goals first | exact True.intro | rfl | omega | (simp only [inr]; omega) | (simp only [IntKind.bits]; omega) | exact fun h => h | (intro hq; rw [hq]; rfl) | (simp only [Int.toNat_natCast, dflt_i, dflt_b, dflt_l, dflt_p, Int.toNat_zero, gt_iff_lt, ge_iff_le]; omega) | (simp only [ti3, ti4, ti22, ti41]; omega) | (simp [ti3, ti4, ti22, ti41]; omega) | (simp_all; done) | (simp [SV.cellsL, SV.cells]; done) | (simp [SV.cellsL, SV.cells]; omega)) ?_
  refine ops_nil ?_
  refine aw_seq ?_
  refine aw_seq ?_
  refine aw_reg _ (by kernel_rfl) rfl ?_
  iterate 2 refine st (m := false) tabok rfl rfl rfl (by (repeat' apply And.intro); all_goals first | exact True.intro | rfl | omega | (simp only [inr]; omega) | (simp only [IntKind.bits]; omega) | exact fun h => h | (intro hq; rw [hq]; rfl) | (simp only [Int.toNat_natCast, dflt_i, dflt_b, dflt_l, dflt_p, Int.toNat_zero, gt_iff_lt, ge_iff_le]; omega) | (simp only [ti3, ti4, ti22, ti41]; omega) | (simp [ti3, ti4, ti22, ti41]; omega) | (simp_all; done) | (simp [SV.cellsL, SV.cells]; done) | (simp [SV.cellsL, SV.cells]; omega)) ?_
  refine sc (plan_ok p m hm hp) rfl rfl (by kernel_rfl) rfl (by kernel_rfl) (.cons (by first | exact argw_same | exact argw_nil | exact argw_tt | exact argw_ff | exact argw_eq rfl) (.cons (by first | exact argw_same | exact argw_nil | exact argw_tt | exact argw_ff | exact argw_eq rfl) .nil)) ?_
  refine st (m := false) tabok rfl rfl rfl (by (repeat' apply And.intro); all_goals first | exact True.intro | rfl | omega | (simp only [inr]; omega) | (simp only [IntKind.bits]; omega) | exact fun h => h | (intro hq; rw [hq]; rfl) | (simp only [Int.toNat_natCast, dflt_i, dflt_b, dflt_l, dflt_p, Int.toNat_zero, gt_iff_lt, ge_iff_le]; omega) | (simp only [ti3, ti4, ti22, ti41]; omega) | (simp [ti3, ti4, ti22, ti41]; omega) | (simp_all; done) | (simp [SV.cellsL, SV.cells]; done) | (simp [SV.cellsL, SV.cells]; omega)) ?_
  refine ops_nil ?_
  refine aw_seq ?_
  refine aw_reg _ (by kernel_rfl) rfl ?_
  iterate 2 refine st (m := false) tabok rfl rfl rfl (by (repeat' apply And.intro); all_goals first | exact True.intro | rfl | omega | (simp only [inr]; omega) | (simp only [IntKind.bits]; omega) | exact fun h => h | (intro hq; rw [hq]; rfl) | (simp only [Int.toNat_natCast, dflt_i, dflt_b, dflt_l, dflt_p, Int.toNat_zero, gt_iff_lt, ge_iff_le]; omega) | (simp only [ti3, ti4, ti22, ti41]; omega) | (simp [ti3, ti4, ti22, ti41]; omega) | (simp_all; done) | (simp [SV.cellsL, SV.cells]; done) | (simp [SV.cellsL, SV.cells]; omega)) ?_
  refine ops_nil ?_
  refine aw_if rfl (fun c2 => ?_) (fun c2 => ?_)
  · try simp only [Bool.or_eq_true, Bool.and_eq_true, Bool.not_eq_true', Bool.not_eq_false', Bool.or_eq_false_iff, Bool.and_eq_false_imp, decide_eq_true_eq, decide_eq_false_iff_not, Bool.not_true, Bool.not_false, beq_iff_eq, Bool.not_eq_true, Bool.not_eq_false, Bool.true_eq_false, Bool.false_eq_true, not_or, Decidable.not_not, ne_eq] at c2
    try simp only [Int.toNat_natCast, dflt_i, dflt_b, dflt_l, dflt_p, Int.toNat_zero, gt_iff_lt, ge_iff_le] at c2
    refine aw_seq ?_
    refine aw_reg _ (by kernel_rfl) rfl ?_
    iterate 3 refine st (m := false) tabok rfl rfl rfl (by (repeat' apply And.intro); all_goals first | exact True.intro | rfl | omega | (simp only [inr]; omega) | (simp only [IntKind.bits]; omega) | exact fun h => h | (intro hq; rw [hq]; rfl) | (simp only [Int.toNat_natCast, dflt_i, dflt_b, dflt_l, dflt_p, Int.toNat_zero, gt_iff_lt, ge_iff_le]; omega) | (simp only [ti3, ti4, ti22, ti41]; omega) | (simp [ti3, ti4, ti22, ti41]; omega) | (simp_all; done) | (simp [SV.cellsL, SV.cells]; done) | (simp [SV.cellsL, SV.cells]; omega)) ?_
    refine ops_nil ?_
    refine aw_ret ?_
    -- leaf ret.2t
    refine ret_c ?_
    exact fs_tup (.cons (fs_nil (by rw [prodS, if_neg c2])) (.cons (fs rfl) .nil))
  · try simp only [Bool.or_eq_true, Bool.and_eq_true, Bool.not_eq_true', Bool.not_eq_false', Bool.or_eq_false_iff, Bool.and_eq_false_imp, decide_eq_true_eq, decide_eq_false_iff_not, Bool.not_true, Bool.not_false, beq_iff_eq, Bool.not_eq_true, Bool.not_eq_false, Bool.true_eq_false, Bool.false_eq_true, not_or, Decidable.not_not, ne_eq] at c2
    try simp only [Int.toNat_natCast, dflt_i, dflt_b, dflt_l, dflt_p, Int.toNat_zero, gt_iff_lt, ge_iff_le] at c2
    have hP := plies_of (p := p) (m := m) (by omega)
    have h1 := hP.len
    have h2 := hP.fine.len
    have h3 := hP.fine.wid
    refine aw_skip ?_
    refine aw_seq ?_
    refine aw_reg _ (by kernel_rfl) rfl ?_
    refine st (m := false) tabok rfl rfl rfl (by (repeat' apply And.intro); all_goals first | exact True.intro | rfl | omega | (simp only [inr]; omega) | (simp only [IntKind.bits]; omega) | exact fun h => h | (intro hq; rw [hq]; rfl) | (simp only [Int.toNat_natCast, dflt_i, dflt_b, dflt_l, dflt_p, Int.toNat_zero, gt_iff_lt, ge_iff_le]; omega) | (simp only [ti3, ti4, ti22, ti41]; omega) | (simp [ti3, ti4, ti22, ti41]; omega) | (simp_all; done) | (simp [SV.cellsL, SV.cells]; done) | (simp [SV.cellsL, SV.cells]; omega)) ?_
    refine sc (sizes_ok m) rfl rfl (by kernel_rfl) rfl (by kernel_rfl) (.cons (by first | exact argw_same | exact argw_nil | exact argw_tt | exact argw_ff | exact argw_eq rfl) .nil) ?_
    iterate 2 refine st (m := false) tabok rfl rfl rfl (by (repeat' apply And.intro); all_goals first | exact True.intro | rfl | omega | (simp only [inr]; omega) | (simp only [IntKind.bits]; omega) | exact fun h => h | (intro hq; rw [hq]; rfl) | (simp only [Int.toNat_natCast, dflt_i, dflt_b, dflt_l, dflt_p, Int.toNat_zero, gt_iff_lt, ge_iff_le]; omega) | (simp only [ti3, ti4, ti22, ti41]; omega) | (simp [ti3, ti4, ti22, ti41]; omega) | (simp_all; done) | (simp [SV.cellsL, SV.cells]; done) | (simp [SV.cellsL, SV.cells]; omega)) ?_
    refine ops_nil ?_
    refine aw_seq ?_
    refine aw_seq ?_
    refine aw_reg _ (by kernel_rfl) rfl ?_
    iterate 3 refine st (m := false) tabok rfl rfl rfl (by (repeat' apply And.intro); all_goals first | exact True.intro | rfl | omega | (simp only [inr]; omega) | (simp only [IntKind.bits]; omega) | exact fun h => h | (intro hq; rw [hq]; rfl) | (simp only [Int.toNat_natCast, dflt_i, dflt_b, dflt_l, dflt_p, Int.toNat_zero, gt_iff_lt, ge_iff_le]; omega) | (simp only [ti3, ti4, ti22, ti41]; omega) | (simp [ti3, ti4, ti22, ti41]; omega) | (simp_all; done) | (simp [SV.cellsL, SV.cells]; done) | (simp [SV.cellsL, SV.cells]; omega)) ?_
    refine ops_nil ?_
    refine aw_block ?_
    refine aw_loop (X := (Nat)) (fun (i : Nat) => outT (look [(0, .row TI64 p), (7, .view 0 0 0 (sizesS m)), (21, .row TMix m), (22, .int .i64 m.length), (23, .int .i64 i)])) (fun (i : Nat) => outS [.obj 0 3 1 [.lst TI64 ((List.range (sizesS m)).map fun s => made p m s i)]]) (fun (i : Nat) => (i ≤ m.length)) (fun (i : Nat) => m.length - i) (0) ?_ ?_ ?_
    -- leaf L0:entry.2f
    · exact goes_to (tm := _) (st := _) [true] rfl rfl ⟨(by exact q_lst (replicate_map_range _ _)), True.intro⟩ ⟨(by first | exact sk rfl rfl | exact sk (q_int (by omega)) rfl | exact sk (q_bool (by simp)) rfl | exact sk (q_view rfl rfl rfl (by omega)) rfl | exact sk (q_gview rfl (by simp)) rfl | exact sk (q_nil rfl) rfl | exact sk (q_row (by simp)) rfl | exact sk_g rfl rfl rfl rfl | exact sk_v rfl rfl rfl rfl rfl | exact sk_n rfl), (by first | exact sk rfl rfl | exact sk (q_int (by omega)) rfl | exact sk (q_bool (by simp)) rfl | exact sk (q_view rfl rfl rfl (by omega)) rfl | exact sk (q_gview rfl (by simp)) rfl | exact sk (q_nil rfl) rfl | exact sk (q_row (by simp)) rfl | exact sk_g rfl rfl rfl rfl | exact sk_v rfl rfl rfl rfl rfl | exact sk_n rfl), (by first | exact sk rfl rfl | exact sk (q_int (by omega)) rfl | exact sk (q_bool (by simp)) rfl | exact sk (q_view rfl rfl rfl (by omega)) rfl | exact sk (q_gview rfl (by simp)) rfl | exact sk (q_nil rfl) rfl | exact sk (q_row (by simp)) rfl | exact sk_g rfl rfl rfl rfl | exact sk_v rfl rfl rfl rfl rfl | exact sk_n rfl), (by first | exact sk rfl rfl | exact sk (q_int (by omega)) rfl | exact sk (q_bool (by simp)) rfl | exact sk (q_view rfl rfl rfl (by omega)) rfl | exact sk (q_gview rfl (by simp)) rfl | exact sk (q_nil rfl) rfl | exact sk (q_row (by simp)) rfl | exact sk_g rfl rfl rfl rfl | exact sk_v rfl rfl rfl rfl rfl | exact sk_n rfl), (by first | exact sk rfl rfl | exact sk (q_int (by omega)) rfl | exact sk (q_bool (by simp)) rfl | exact sk (q_view rfl rfl rfl (by omega)) rfl | exact sk (q_gview rfl (by simp)) rfl | exact sk (q_nil rfl) rfl | exact sk (q_row (by simp)) rfl | exact sk_g rfl rfl rfl rfl | exact sk_v rfl rfl rfl rfl rfl | exact sk_n rfl), True.intro⟩
    · omega
    · skip
      rintro i hi
      change awpB _ _ _ _ _ (outT (look [(0, .row TI64 p), (7, .view 0 0 0 (sizesS m)), (21, .row TMix m), (22, .int .i64 m.length), (23, .int .i64 i)])) (outS [.obj 0 3 1 [.lst TI64 ((List.range (sizesS m)).map fun s => made p m s i)]])
      refine aw_seq ?_
      refine aw_reg _ (by kernel_rfl) rfl ?_
      refine st (m := false) tabok rfl rfl rfl (by (repeat' apply And.intro); all_goals first | exact True.intro | rfl | omega | (simp only [inr]; omega) | (simp only [IntKind.bits]; omega) | exact fun h => h | (intro hq; rw [hq]; rfl) | (simp only [Int.toNat_natCast, dflt_i, dflt_b, dflt_l, dflt_p, Int.toNat_zero, gt_iff_lt, ge_iff_le]; omega) | (simp only [ti3, ti4, ti22, ti41]; omega) | (simp [ti3, ti4, ti22, ti41]; omega) | (simp_all; done) | (simp [SV.cellsL, SV.cells]; done) | (simp [SV.cellsL, SV.cells]; omega)) ?_
      refine ops_nil ?_
      refine aw_seq ?_
      refine aw_if rfl (fun c6 => ?_) (fun c6 => ?_)
      · try simp only [Bool.or_eq_true, Bool.and_eq_true, Bool.not_eq_true', Bool.not_eq_false', Bool.or_eq_false_iff, Bool.and_eq_false_imp, decide_eq_true_eq, decide_eq_false_iff_not, Bool.not_true, Bool.not_false, beq_iff_eq, Bool.not_eq_true, Bool.not_eq_false, Bool.true_eq_false, Bool.false_eq_true, not_or, Decidable.not_not, ne_eq] at c6
        try simp only [Int.toNat_natCast, dflt_i, dflt_b, dflt_l, dflt_p, Int.toNat_zero, gt_iff_lt, ge_iff_le] at c6
        refine aw_skip ?_
        refine aw_seq ?_
        refine aw_block ?_
        refine aw_seq ?_
        refine aw_reg _ (by kernel_rfl) rfl ?_
        iterate 5 refine st (m := false) tabok rfl rfl rfl (by (repeat' apply And.intro); all_goals first | exact True.intro | rfl | omega | (simp only [inr]; omega) | (simp only [IntKind.bits]; omega) | exact fun h => h | (intro hq; rw [hq]; rfl) | (simp only [Int.toNat_natCast, dflt_i, dflt_b, dflt_l, dflt_p, Int.toNat_zero, gt_iff_lt, ge_iff_le]; omega) | (simp only [ti3, ti4, ti22, ti41]; omega) | (simp [ti3, ti4, ti22, ti41]; omega) | (simp_all; done) | (simp [SV.cellsL, SV.cells]; done) | (simp [SV.cellsL, SV.cells]; omega)) ?_
        refine st0 (m := false) tabok rfl rfl rfl (by (repeat' apply And.intro); all_goals first | exact True.intro | rfl | omega | (simp only [inr]; omega) | (simp only [IntKind.bits]; omega) | exact fun h => h | (intro hq; rw [hq]; rfl) | (simp only [Int.toNat_natCast, dflt_i, dflt_b, dflt_l, dflt_p, Int.toNat_zero, gt_iff_lt, ge_iff_le]; omega) | (simp only [ti3, ti4, ti22, ti41]; omega) | (simp [ti3, ti4, ti22, ti41]; omega) | (simp_all; done) | (simp [SV.cellsL, SV.cells]; done) | (simp [SV.cellsL, SV.cells]; omega)) ?_
        refine ops_nil ?_
        refine aw_seq ?_
        refine aw_reg _ (by kernel_rfl) rfl ?_
        iterate 4 refine st (m := false) tabok rfl rfl rfl (by (repeat' apply And.intro); all_goals first | exact True.intro | rfl | omega | (simp only [inr]; omega) | (simp only [IntKind.bits]; omega) | exact fun h => h | (intro hq; rw [hq]; rfl) | (simp only [Int.toNat_natCast, dflt_i, dflt_b, dflt_l, dflt_p, Int.toNat_zero, gt_iff_lt, ge_iff_le]; omega) | (simp only [ti3, ti4, ti22, ti41]; omega) | (simp [ti3, ti4, ti22, ti41]; omega) | (simp_all; done) | (simp [SV.cellsL, SV.cells]; done) | (simp [SV.cellsL, SV.cells]; omega)) ?_
        refine ops_nil ?_
        refine aw_block ?_
        refine aw_loop (X := (Nat)) (fun (s : Nat) => outT (look [(0, .row TI64 p), (7, .view 0 0 0 (sizesS m)), (8, .int .i64 i), (21, .row TMix m), (22, .int .i64 m.length), (23, .int .i64 i), (29, .row TI64 (m.getD i ([], 0)).1), (30, .int .i64 (sizesS m : Nat)), (31, .int .i64 s)])) (fun (s : Nat) => outS [.obj 0 3 1 [.lst TI64 ((List.range (sizesS m)).map fun t => if t < s then made p m t (i + 1) else made p m t i)]]) (fun (s : Nat) => (s ≤ sizesS m)) (fun (s : Nat) => sizesS m - s) (0) ?_ ?_ ?_
        -- leaf L1:entry.6t
        · exact goes_to (tm := _) (st := _) [true] rfl rfl ⟨(by exact q_lst (map_range_congr fun t _ => by simp)), True.intro⟩ ⟨(by first | exact sk rfl rfl | exact sk (q_int (by omega)) rfl | exact sk (q_bool (by simp)) rfl | exact sk (q_view rfl rfl rfl (by omega)) rfl | exact sk (q_gview rfl (by simp)) rfl | exact sk (q_nil rfl) rfl | exact sk (q_row (by simp)) rfl | exact sk_g rfl rfl rfl rfl | exact sk_v rfl rfl rfl rfl rfl | exact sk_n rfl), (by first | exact sk rfl rfl | exact sk (q_int (by omega)) rfl | exact sk (q_bool (by simp)) rfl | exact sk (q_view rfl rfl rfl (by omega)) rfl | exact sk (q_gview rfl (by simp)) rfl | exact sk (q_nil rfl) rfl | exact sk (q_row (by simp)) rfl | exact sk_g rfl rfl rfl rfl | exact sk_v rfl rfl rfl rfl rfl | exact sk_n rfl), (by first | exact sk rfl rfl | exact sk (q_int (by omega)) rfl | exact sk (q_bool (by simp)) rfl | exact sk (q_view rfl rfl rfl (by omega)) rfl | exact sk (q_gview rfl (by simp)) rfl | exact sk (q_nil rfl) rfl | exact sk (q_row (by simp)) rfl | exact sk_g rfl rfl rfl rfl | exact sk_v rfl rfl rfl rfl rfl | exact sk_n rfl), (by first | exact sk rfl rfl | exact sk (q_int (by omega)) rfl | exact sk (q_bool (by simp)) rfl | exact sk (q_view rfl rfl rfl (by omega)) rfl | exact sk (q_gview rfl (by simp)) rfl | exact sk (q_nil rfl) rfl | exact sk (q_row (by simp)) rfl | exact sk_g rfl rfl rfl rfl | exact sk_v rfl rfl rfl rfl rfl | exact sk_n rfl), (by first | exact sk rfl rfl | exact sk (q_int (by omega)) rfl | exact sk (q_bool (by simp)) rfl | exact sk (q_view rfl rfl rfl (by omega)) rfl | exact sk (q_gview rfl (by simp)) rfl | exact sk (q_nil rfl) rfl | exact sk (q_row (by simp)) rfl | exact sk_g rfl rfl rfl rfl | exact sk_v rfl rfl rfl rfl rfl | exact sk_n rfl), (by first | exact sk rfl rfl | exact sk (q_int (by omega)) rfl | exact sk (q_bool (by simp)) rfl | exact sk (q_view rfl rfl rfl (by omega)) rfl | exact sk (q_gview rfl (by simp)) rfl | exact sk (q_nil rfl) rfl | exact sk (q_row (by simp)) rfl | exact sk_g rfl rfl rfl rfl | exact sk_v rfl rfl rfl rfl rfl | exact sk_n rfl), (by first | exact sk rfl rfl | exact sk (q_int (by omega)) rfl | exact sk (q_bool (by simp)) rfl | exact sk (q_view rfl rfl rfl (by omega)) rfl | exact sk (q_gview rfl (by simp)) rfl | exact sk (q_nil rfl) rfl | exact sk (q_row (by simp)) rfl | exact sk_g rfl rfl rfl rfl | exact sk_v rfl rfl rfl rfl rfl | exact sk_n rfl), (by refine sk ?_ rfl; exact q_int (by have hc := hP.fine.cnt i (by omega); simp only [Int.toNat_natCast, dflt_p, dflt_l, dflt_i]; omega)), (by first | exact sk rfl rfl | exact sk (q_int (by omega)) rfl | exact sk (q_bool (by simp)) rfl | exact sk (q_view rfl rfl rfl (by omega)) rfl | exact sk (q_gview rfl (by simp)) rfl | exact sk (q_nil rfl) rfl | exact sk (q_row (by simp)) rfl | exact sk_g rfl rfl rfl rfl | exact sk_v rfl rfl rfl rfl rfl | exact sk_n rfl), True.intro⟩
        · first | omega | assumption | simp
        · skip
          rintro s hs
          change awpB _ _ _ _ _ (outT (look [(0, .row TI64 p), (7, .view 0 0 0 (sizesS m)), (8, .int .i64 i), (21, .row TMix m), (22, .int .i64 m.length), (23, .int .i64 i), (29, .row TI64 (m.getD i ([], 0)).1), (30, .int .i64 (sizesS m : Nat)), (31, .int .i64 s)])) (outS [.obj 0 3 1 [.lst TI64 ((List.range (sizesS m)).map fun t => if t < s then made p m t (i + 1) else made p m t i)]])
          have hc := hP.fine.cnt i (by omega)
          refine aw_seq ?_
          refine aw_reg _ (by kernel_rfl) rfl ?_
          refine st (m := false) tabok rfl rfl rfl (by (repeat' apply And.intro); all_goals first | exact True.intro | rfl | omega | (simp only [inr]; omega) | (simp only [IntKind.bits]; omega) | exact fun h => h | (intro hq; rw [hq]; rfl) | (simp only [Int.toNat_natCast, dflt_i, dflt_b, dflt_l, dflt_p, Int.toNat_zero, gt_iff_lt, ge_iff_le]; omega) | (simp only [ti3, ti4, ti22, ti41]; omega) | (simp [ti3, ti4, ti22, ti41]; omega) | (simp_all; done) | (simp [SV.cellsL, SV.cells]; done) | (simp [SV.cellsL, SV.cells]; omega)) ?_
          refine ops_nil ?_
          refine aw_seq ?_
          refine aw_if rfl (fun c9 => ?_) (fun c9 => ?_)
          · try simp only [Bool.or_eq_true, Bool.and_eq_true, Bool.not_eq_true', Bool.not_eq_false', Bool.or_eq_false_iff, Bool.and_eq_false_imp, decide_eq_true_eq, decide_eq_false_iff_not, Bool.not_true, Bool.not_false, beq_iff_eq, Bool.not_eq_true, Bool.not_eq_false, Bool.true_eq_false, Bool.false_eq_true, not_or, Decidable.not_not, ne_eq] at c9
            try simp only [Int.toNat_natCast, dflt_i, dflt_b, dflt_l, dflt_p, Int.toNat_zero, gt_iff_lt, ge_iff_le] at c9
            have h4 := made_le hP (s := s) (by omega) i (by omega)
            have h5 := mul_le (hP.rng i (by omega)) (hP.fine.num i s (by omega) (by omega))
            have h6 : ((List.range (sizesS m)).map fun t => if t < s then made p m t (i + 1) else made p m t i).getD s 0 = made p m s i := by rw [getD_map_range _ _ (by omega), if_neg (by omega)]
            refine aw_skip ?_
            refine aw_seq ?_
            refine aw_block ?_
            refine aw_seq ?_
            refine aw_reg _ (by kernel_rfl) rfl ?_
            iterate 5 refine st (m := false) tabok rfl rfl rfl (by (repeat' apply And.intro); all_goals first | exact True.intro | rfl | omega | (simp only [inr]; omega) | (simp only [IntKind.bits]; omega) | exact fun h => h | (intro hq; rw [hq]; rfl) | (simp only [Int.toNat_natCast, dflt_i, dflt_b, dflt_l, dflt_p, Int.toNat_zero, gt_iff_lt, ge_iff_le]; omega) | (simp only [ti3, ti4, ti22, ti41]; omega) | (simp [ti3, ti4, ti22, ti41]; omega) | (simp_all; done) | (simp [SV.cellsL, SV.cells]; done) | (simp [SV.cellsL, SV.cells]; omega)) ?_
            refine ops_nil ?_
            refine aw_regD true _ (by kernel_rfl) (by kernel_rfl) (by kernel_rfl) rfl ?_
            iterate 12 refine sd (m := false) tabok rfl rfl rfl (by (repeat' apply And.intro); all_goals first | exact True.intro | rfl | omega | (simp only [inr]; omega) | (simp only [IntKind.bits]; omega) | exact fun h => h | (intro hq; rw [hq]; rfl) | (simp only [Int.toNat_natCast, dflt_i, dflt_b, dflt_l, dflt_p, Int.toNat_zero, gt_iff_lt, ge_iff_le]; omega) | (simp only [ti3, ti4, ti22, ti41]; omega) | (simp [ti3, ti4, ti22, ti41]; omega) | (simp_all; done) | (simp [SV.cellsL, SV.cells]; done) | (simp [SV.cellsL, SV.cells]; omega)) ?_
            refine sd0 (m := false) tabok rfl rfl rfl (by (repeat' apply And.intro); all_goals first | exact True.intro | rfl | omega | (simp only [inr]; omega) | (simp only [IntKind.bits]; omega) | exact fun h => h | (intro hq; rw [hq]; rfl) | (simp only [Int.toNat_natCast, dflt_i, dflt_b, dflt_l, dflt_p, Int.toNat_zero, gt_iff_lt, ge_iff_le]; omega) | (simp only [ti3, ti4, ti22, ti41]; omega) | (simp [ti3, ti4, ti22, ti41]; omega) | (simp_all; done) | (simp [SV.cellsL, SV.cells]; done) | (simp [SV.cellsL, SV.cells]; omega)) ?_
            refine opd_nil ?_
            refine aw_reg _ (by kernel_rfl) rfl ?_
            iterate 2 refine st (m := false) tabok rfl rfl rfl (by (repeat' apply And.intro); all_goals first | exact True.intro | rfl | omega | (simp only [inr]; omega) | (simp only [IntKind.bits]; omega) | exact fun h => h | (intro hq; rw [hq]; rfl) | (simp only [Int.toNat_natCast, dflt_i, dflt_b, dflt_l, dflt_p, Int.toNat_zero, gt_iff_lt, ge_iff_le]; omega) | (simp only [ti3, ti4, ti22, ti41]; omega) | (simp [ti3, ti4, ti22, ti41]; omega) | (simp_all; done) | (simp [SV.cellsL, SV.cells]; done) | (simp [SV.cellsL, SV.cells]; omega)) ?_
            refine ops_nil ?_
            -- leaf L1.9t
            refine Exists.intro (s + 1) ⟨?_, ?_, ?_⟩
            · exact goes_to (tm := _) (st := _) [true] rfl rfl ⟨(by exact q_lst (by simp only [Int.toNat_natCast, dflt_i, dflt_p, dflt_l]; rw [h6]; exact map_range_fill _ _ _ rfl)), True.intro⟩ ⟨(by first | exact sk rfl rfl | exact sk (q_int (by omega)) rfl | exact sk (q_bool (by simp)) rfl | exact sk (q_view rfl rfl rfl (by omega)) rfl | exact sk (q_gview rfl (by simp)) rfl | exact sk (q_nil rfl) rfl | exact sk (q_row (by simp)) rfl | exact sk_g rfl rfl rfl rfl | exact sk_v rfl rfl rfl rfl rfl | exact sk_n rfl), (by first | exact sk rfl rfl | exact sk (q_int (by omega)) rfl | exact sk (q_bool (by simp)) rfl | exact sk (q_view rfl rfl rfl (by omega)) rfl | exact sk (q_gview rfl (by simp)) rfl | exact sk (q_nil rfl) rfl | exact sk (q_row (by simp)) rfl | exact sk_g rfl rfl rfl rfl | exact sk_v rfl rfl rfl rfl rfl | exact sk_n rfl), (by first | exact sk rfl rfl | exact sk (q_int (by omega)) rfl | exact sk (q_bool (by simp)) rfl | exact sk (q_view rfl rfl rfl (by omega)) rfl | exact sk (q_gview rfl (by simp)) rfl | exact sk (q_nil rfl) rfl | exact sk (q_row (by simp)) rfl | exact sk_g rfl rfl rfl rfl | exact sk_v rfl rfl rfl rfl rfl | exact sk_n rfl), (by first | exact sk rfl rfl | exact sk (q_int (by omega)) rfl | exact sk (q_bool (by simp)) rfl | exact sk (q_view rfl rfl rfl (by omega)) rfl | exact sk (q_gview rfl (by simp)) rfl | exact sk (q_nil rfl) rfl | exact sk (q_row (by simp)) rfl | exact sk_g rfl rfl rfl rfl | exact sk_v rfl rfl rfl rfl rfl | exact sk_n rfl), (by first | exact sk rfl rfl | exact sk (q_int (by omega)) rfl | exact sk (q_bool (by simp)) rfl | exact sk (q_view rfl rfl rfl (by omega)) rfl | exact sk (q_gview rfl (by simp)) rfl | exact sk (q_nil rfl) rfl | exact sk (q_row (by simp)) rfl | exact sk_g rfl rfl rfl rfl | exact sk_v rfl rfl rfl rfl rfl | exact sk_n rfl), (by first | exact sk rfl rfl | exact sk (q_int (by omega)) rfl | exact sk (q_bool (by simp)) rfl | exact sk (q_view rfl rfl rfl (by omega)) rfl | exact sk (q_gview rfl (by simp)) rfl | exact sk (q_nil rfl) rfl | exact sk (q_row (by simp)) rfl | exact sk_g rfl rfl rfl rfl | exact sk_v rfl rfl rfl rfl rfl | exact sk_n rfl), (by first | exact sk rfl rfl | exact sk (q_int (by omega)) rfl | exact sk (q_bool (by simp)) rfl | exact sk (q_view rfl rfl rfl (by omega)) rfl | exact sk (q_gview rfl (by simp)) rfl | exact sk (q_nil rfl) rfl | exact sk (q_row (by simp)) rfl | exact sk_g rfl rfl rfl rfl | exact sk_v rfl rfl rfl rfl rfl | exact sk_n rfl), (by first | exact sk rfl rfl | exact sk (q_int (by omega)) rfl | exact sk (q_bool (by simp)) rfl | exact sk (q_view rfl rfl rfl (by omega)) rfl | exact sk (q_gview rfl (by simp)) rfl | exact sk (q_nil rfl) rfl | exact sk (q_row (by simp)) rfl | exact sk_g rfl rfl rfl rfl | exact sk_v rfl rfl rfl rfl rfl | exact sk_n rfl), (by first | exact sk rfl rfl | exact sk (q_int (by omega)) rfl | exact sk (q_bool (by simp)) rfl | exact sk (q_view rfl rfl rfl (by omega)) rfl | exact sk (q_gview rfl (by simp)) rfl | exact sk (q_nil rfl) rfl | exact sk (q_row (by simp)) rfl | exact sk_g rfl rfl rfl rfl | exact sk_v rfl rfl rfl rfl rfl | exact sk_n rfl), True.intro⟩
            · try dsimp only
              first | omega | assumption | simp
            · (try dsimp only); omega
          · try simp only [Bool.or_eq_true, Bool.and_eq_true, Bool.not_eq_true', Bool.not_eq_false', Bool.or_eq_false_iff, Bool.and_eq_false_imp, decide_eq_true_eq, decide_eq_false_iff_not, Bool.not_true, Bool.not_false, beq_iff_eq, Bool.not_eq_true, Bool.not_eq_false, Bool.true_eq_false, Bool.false_eq_true, not_or, Decidable.not_not, ne_eq] at c9
            try simp only [Int.toNat_natCast, dflt_i, dflt_b, dflt_l, dflt_p, Int.toNat_zero, gt_iff_lt, ge_iff_le] at c9
            refine aw_exit ?_
            refine aw_reg _ (by kernel_rfl) rfl ?_
            iterate 2 refine st (m := false) tabok rfl rfl rfl (by (repeat' apply And.intro); all_goals first | exact True.intro | rfl | omega | (simp only [inr]; omega) | (simp only [IntKind.bits]; omega) | exact fun h => h | (intro hq; rw [hq]; rfl) | (simp only [Int.toNat_natCast, dflt_i, dflt_b, dflt_l, dflt_p, Int.toNat_zero, gt_iff_lt, ge_iff_le]; omega) | (simp only [ti3, ti4, ti22, ti41]; omega) | (simp [ti3, ti4, ti22, ti41]; omega) | (simp_all; done) | (simp [SV.cellsL, SV.cells]; done) | (simp [SV.cellsL, SV.cells]; omega)) ?_
            refine ops_nil ?_
            -- leaf L0.9f
            refine Exists.intro (i + 1) ⟨?_, ?_, ?_⟩
            · exact goes_to (tm := _) (st := _) [true] rfl rfl ⟨(by exact q_lst (map_range_congr fun t ht => by rw [if_pos (by omega)])), True.intro⟩ ⟨(by first | exact sk rfl rfl | exact sk (q_int (by omega)) rfl | exact sk (q_bool (by simp)) rfl | exact sk (q_view rfl rfl rfl (by omega)) rfl | exact sk (q_gview rfl (by simp)) rfl | exact sk (q_nil rfl) rfl | exact sk (q_row (by simp)) rfl | exact sk_g rfl rfl rfl rfl | exact sk_v rfl rfl rfl rfl rfl | exact sk_n rfl), (by first | exact sk rfl rfl | exact sk (q_int (by omega)) rfl | exact sk (q_bool (by simp)) rfl | exact sk (q_view rfl rfl rfl (by omega)) rfl | exact sk (q_gview rfl (by simp)) rfl | exact sk (q_nil rfl) rfl | exact sk (q_row (by simp)) rfl | exact sk_g rfl rfl rfl rfl | exact sk_v rfl rfl rfl rfl rfl | exact sk_n rfl), (by first | exact sk rfl rfl | exact sk (q_int (by omega)) rfl | exact sk (q_bool (by simp)) rfl | exact sk (q_view rfl rfl rfl (by omega)) rfl | exact sk (q_gview rfl (by simp)) rfl | exact sk (q_nil rfl) rfl | exact sk (q_row (by simp)) rfl | exact sk_g rfl rfl rfl rfl | exact sk_v rfl rfl rfl rfl rfl | exact sk_n rfl), (by first | exact sk rfl rfl | exact sk (q_int (by omega)) rfl | exact sk (q_bool (by simp)) rfl | exact sk (q_view rfl rfl rfl (by omega)) rfl | exact sk (q_gview rfl (by simp)) rfl | exact sk (q_nil rfl) rfl | exact sk (q_row (by simp)) rfl | exact sk_g rfl rfl rfl rfl | exact sk_v rfl rfl rfl rfl rfl | exact sk_n rfl), (by first | exact sk rfl rfl | exact sk (q_int (by omega)) rfl | exact sk (q_bool (by simp)) rfl | exact sk (q_view rfl rfl rfl (by omega)) rfl | exact sk (q_gview rfl (by simp)) rfl | exact sk (q_nil rfl) rfl | exact sk (q_row (by simp)) rfl | exact sk_g rfl rfl rfl rfl | exact sk_v rfl rfl rfl rfl rfl | exact sk_n rfl), True.intro⟩
            · try dsimp only
              omega
            · (try dsimp only); omega
      · try simp only [Bool.or_eq_true, Bool.and_eq_true, Bool.not_eq_true', Bool.not_eq_false', Bool.or_eq_false_iff, Bool.and_eq_false_imp, decide_eq_true_eq, decide_eq_false_iff_not, Bool.not_true, Bool.not_false, beq_iff_eq, Bool.not_eq_true, Bool.not_eq_false, Bool.true_eq_false, Bool.false_eq_true, not_or, Decidable.not_not, ne_eq] at c6
        try simp only [Int.toNat_natCast, dflt_i, dflt_b, dflt_l, dflt_p, Int.toNat_zero, gt_iff_lt, ge_iff_le] at c6
        refine aw_exit ?_
        refine aw_seq ?_
        refine aw_reg _ (by kernel_rfl) rfl ?_
        iterate 3 refine st (m := false) tabok rfl rfl rfl (by (repeat' apply And.intro); all_goals first | exact True.intro | rfl | omega | (simp only [inr]; omega) | (simp only [IntKind.bits]; omega) | exact fun h => h | (intro hq; rw [hq]; rfl) | (simp only [Int.toNat_natCast, dflt_i, dflt_b, dflt_l, dflt_p, Int.toNat_zero, gt_iff_lt, ge_iff_le]; omega) | (simp only [ti3, ti4, ti22, ti41]; omega) | (simp [ti3, ti4, ti22, ti41]; omega) | (simp_all; done) | (simp [SV.cellsL, SV.cells]; done) | (simp [SV.cellsL, SV.cells]; omega)) ?_
        refine ops_nil ?_
        refine aw_ret ?_
        -- leaf ret.6f
        refine ret_c ?_
        have hh : i = m.length := by omega
        subst hh
        exact fs_tup (.cons (fs_all rfl rfl (by simp) (by rw [prodS, if_pos (by omega)]; rfl)) (.cons (fs_int (by omega)) .nil))
end Go.Sim
end
section
namespace Go.Sim
open Go Go.Proofs
set_option maxRecDepth 10000
set_option autoImplicit false
set_option linter.unusedSimpArgs false
set_option linter.unusedVariables false
def sameS (a b : List Int) : Bool := decide (a = b)
theorem same_ok (a b : List Int) (ha : Big a.length) : CS Try.prog 17 [.row TI64 a, .row TI64 b] (.bool (sameS a b)) := by
  unfold Big at ha
  refine fn_c [4] Try.func17 Try.ntmps17 rfl rfl rfl rfl ?_
  refine aw_seq ?_
  refine aw_reg _ (by kernel_rfl) rfl ?_
  refine st (m := false) tabok rfl rfl rfl (by (repeat' apply And.intro); all_goals first | exact True.intro | rfl | omega | (simp only [inr]; omega) | (simp only [IntKind.bits]; omega) | exact fun h => h | (intro hq; rw [hq]; rfl) | (simp only [Int.toNat_natCast, dflt_i, dflt_b, dflt_l, dflt_p, Int.toNat_zero, gt_iff_lt, ge_iff_le]; omega) | (simp only [ti3, ti4, ti22, ti41]; omega) | (simp [ti3, ti4, ti22, ti41]; omega) | (simp_all; done) | (simp [SV.cellsL, SV.cells]; done) | (simp [SV.cellsL, SV.cells]; omega)) ?_
  refine ops_nil ?_
  refine aw_seq ?_
  refine aw_seq ?_
  refine aw_reg _ (by kernel_rfl) rfl ?_
  iterate 5 refine st (m := false) tabok rfl rfl rfl (by (repeat' apply And.intro); all_goals first | exact True.intro | rfl | omega | (simp only [inr]; omega) | (simp only [IntKind.bits]; omega) | exact fun h => h | (intro hq; rw [hq]; rfl) | (simp only [Int.toNat_natCast, dflt_i, dflt_b, dflt_l, dflt_p, Int.toNat_zero, gt_iff_lt, ge_iff_le]; omega) | (simp only [ti3, ti4, ti22, ti41]; omega) | (simp [ti3, ti4, ti22, ti41]; omega) | (simp_all; done) | (simp [SV.cellsL, SV.cells]; done) | (simp [SV.cellsL, SV.cells]; omega)) ?_
  refine ops_nil ?_
  refine aw_if rfl (fun c1 => ?_) (fun c1 => ?_)
  · try simp only [Bool.or_eq_true, Bool.and_eq_true, Bool.not_eq_true', Bool.not_eq_false', Bool.or_eq_false_iff, Bool.and_eq_false_imp, decide_eq_true_eq, decide_eq_false_iff_not, Bool.not_true, Bool.not_false, beq_iff_eq, Bool.not_eq_true, Bool.not_eq_false, Bool.true_eq_false, Bool.false_eq_true, not_or, Decidable.not_not, ne_eq] at c1
    try simp only [Int.toNat_natCast, dflt_i, dflt_b, dflt_l, dflt_p, Int.toNat_zero, gt_iff_lt, ge_iff_le] at c1
    refine aw_seq ?_
    refine aw_reg _ (by kernel_rfl) rfl ?_
    refine st (m := false) tabok rfl rfl rfl (by (repeat' apply And.intro); all_goals first | exact True.intro | rfl | omega | (simp only [inr]; omega) | (simp only [IntKind.bits]; omega) | exact fun h => h | (intro hq; rw [hq]; rfl) | (simp only [Int.toNat_natCast, dflt_i, dflt_b, dflt_l, dflt_p, Int.toNat_zero, gt_iff_lt, ge_iff_le]; omega) | (simp only [ti3, ti4, ti22, ti41]; omega) | (simp [ti3, ti4, ti22, ti41]; omega) | (simp_all; done) | (simp [SV.cellsL, SV.cells]; done) | (simp [SV.cellsL, SV.cells]; omega)) ?_
    refine ops_nil ?_
    refine aw_ret ?_
    -- leaf ret.1t
    refine ret_c ?_
    exact fs_ff (by rw [sameS, decide_eq_false_iff_not]; intro e; exact c1 (by rw [e]))
  · try simp only [Bool.or_eq_true, Bool.and_eq_true, Bool.not_eq_true', Bool.not_eq_false', Bool.or_eq_false_iff, Bool.and_eq_false_imp, decide_eq_true_eq, decide_eq_false_iff_not, Bool.not_true, Bool.not_false, beq_iff_eq, Bool.not_eq_true, Bool.not_eq_false, Bool.true_eq_false, Bool.false_eq_true, not_or, Decidable.not_not, ne_eq] at c1
    try simp only [Int.toNat_natCast, dflt_i, dflt_b, dflt_l, dflt_p, Int.toNat_zero, gt_iff_lt, ge_iff_le] at c1
    refine aw_skip ?_
    refine aw_seq ?_
    refine aw_seq ?_
    refine aw_reg _ (by kernel_rfl) rfl ?_
    refine st (m := false) tabok rfl rfl rfl (by (repeat' apply And.intro); all_goals first | exact True.intro | rfl | omega | (simp only [inr]; omega) | (simp only [IntKind.bits]; omega) | exact fun h => h | (intro hq; rw [hq]; rfl) | (simp only [Int.toNat_natCast, dflt_i, dflt_b, dflt_l, dflt_p, Int.toNat_zero, gt_iff_lt, ge_iff_le]; omega) | (simp only [ti3, ti4, ti22, ti41]; omega) | (simp [ti3, ti4, ti22, ti41]; omega) | (simp_all; done) | (simp [SV.cellsL, SV.cells]; done) | (simp [SV.cellsL, SV.cells]; omega)) ?_
    refine ops_nil ?_
    refine aw_block ?_
    refine aw_loop (X := (Nat)) (fun (i : Nat) => outT (look [(0, .row TI64 a), (1, .row TI64 b), (5, .int .i64 i)])) (fun (i : Nat) => outS []) (fun (i : Nat) => (i ≤ a.length) ∧ (a.length = b.length) ∧ (∀ k, k < i → a.getD k 0 = b.getD k 0)) (fun (i : Nat) => a.length - i) (0) ?_ ?_ ?_
    -- leaf L0:entry.1f
    · exact goes_to (tm := _) (st := _) [] rfl rfl True.intro ⟨(by first | exact sk rfl rfl | exact sk (q_int (by omega)) rfl | exact sk (q_bool (by simp)) rfl | exact sk (q_view rfl rfl rfl (by omega)) rfl | exact sk (q_gview rfl (by simp)) rfl | exact sk (q_nil rfl) rfl | exact sk (q_row (by simp)) rfl | exact sk_g rfl rfl rfl rfl | exact sk_v rfl rfl rfl rfl rfl | exact sk_n rfl), (by first | exact sk rfl rfl | exact sk (q_int (by omega)) rfl | exact sk (q_bool (by simp)) rfl | exact sk (q_view rfl rfl rfl (by omega)) rfl | exact sk (q_gview rfl (by simp)) rfl | exact sk (q_nil rfl) rfl | exact sk (q_row (by simp)) rfl | exact sk_g rfl rfl rfl rfl | exact sk_v rfl rfl rfl rfl rfl | exact sk_n rfl), (by first | exact sk rfl rfl | exact sk (q_int (by omega)) rfl | exact sk (q_bool (by simp)) rfl | exact sk (q_view rfl rfl rfl (by omega)) rfl | exact sk (q_gview rfl (by simp)) rfl | exact sk (q_nil rfl) rfl | exact sk (q_row (by simp)) rfl | exact sk_g rfl rfl rfl rfl | exact sk_v rfl rfl rfl rfl rfl | exact sk_n rfl), True.intro⟩
    · exact ⟨by omega, by omega, fun k hk => absurd hk (by omega)⟩
    · skip
      rintro i ⟨hi, hl, hs⟩
      change awpB _ _ _ _ _ (outT (look [(0, .row TI64 a), (1, .row TI64 b), (5, .int .i64 i)])) (outS [])
      refine aw_seq ?_
      refine aw_seq ?_
      refine aw_reg _ (by kernel_rfl) rfl ?_
      iterate 4 refine st (m := false) tabok rfl rfl rfl (by (repeat' apply And.intro); all_goals first | exact True.intro | rfl | omega | (simp only [inr]; omega) | (simp only [IntKind.bits]; omega) | exact fun h => h | (intro hq; rw [hq]; rfl) | (simp only [Int.toNat_natCast, dflt_i, dflt_b, dflt_l, dflt_p, Int.toNat_zero, gt_iff_lt, ge_iff_le]; omega) | (simp only [ti3, ti4, ti22, ti41]; omega) | (simp [ti3, ti4, ti22, ti41]; omega) | (simp_all; done) | (simp [SV.cellsL, SV.cells]; done) | (simp [SV.cellsL, SV.cells]; omega)) ?_
      refine ops_nil ?_
      refine aw_if rfl (fun c4 => ?_) (fun c4 => ?_)
      · try simp only [Bool.or_eq_true, Bool.and_eq_true, Bool.not_eq_true', Bool.not_eq_false', Bool.or_eq_false_iff, Bool.and_eq_false_imp, decide_eq_true_eq, decide_eq_false_iff_not, Bool.not_true, Bool.not_false, beq_iff_eq, Bool.not_eq_true, Bool.not_eq_false, Bool.true_eq_false, Bool.false_eq_true, not_or, Decidable.not_not, ne_eq] at c4
        try simp only [Int.toNat_natCast, dflt_i, dflt_b, dflt_l, dflt_p, Int.toNat_zero, gt_iff_lt, ge_iff_le] at c4
        refine aw_skip ?_
        refine aw_seq ?_
        refine aw_block ?_
        refine aw_seq ?_
        refine aw_regD true _ (by kernel_rfl) (by kernel_rfl) (by kernel_rfl) rfl ?_
        iterate 9 refine sd (m := false) tabok rfl rfl rfl (by (repeat' apply And.intro); all_goals first | exact True.intro | rfl | omega | (simp only [inr]; omega) | (simp only [IntKind.bits]; omega) | exact fun h => h | (intro hq; rw [hq]; rfl) | (simp only [Int.toNat_natCast, dflt_i, dflt_b, dflt_l, dflt_p, Int.toNat_zero, gt_iff_lt, ge_iff_le]; omega) | (simp only [ti3, ti4, ti22, ti41]; omega) | (simp [ti3, ti4, ti22, ti41]; omega) | (simp_all; done) | (simp [SV.cellsL, SV.cells]; done) | (simp [SV.cellsL, SV.cells]; omega)) ?_
        refine opd_nil ?_
        refine aw_if rfl (fun c6 => ?_) (fun c6 => ?_)
        · try simp only [Bool.or_eq_true, Bool.and_eq_true, Bool.not_eq_true', Bool.not_eq_false', Bool.or_eq_false_iff, Bool.and_eq_false_imp, decide_eq_true_eq, decide_eq_false_iff_not, Bool.not_true, Bool.not_false, beq_iff_eq, Bool.not_eq_true, Bool.not_eq_false, Bool.true_eq_false, Bool.false_eq_true, not_or, Decidable.not_not, ne_eq] at c6
          try simp only [Int.toNat_natCast, dflt_i, dflt_b, dflt_l, dflt_p, Int.toNat_zero, gt_iff_lt, ge_iff_le] at c6
          refine aw_seq ?_
          refine aw_reg _ (by kernel_rfl) rfl ?_
          refine st (m := false) tabok rfl rfl rfl (by (repeat' apply And.intro); all_goals first | exact True.intro | rfl | omega | (simp only [inr]; omega) | (simp only [IntKind.bits]; omega) | exact fun h => h | (intro hq; rw [hq]; rfl) | (simp only [Int.toNat_natCast, dflt_i, dflt_b, dflt_l, dflt_p, Int.toNat_zero, gt_iff_lt, ge_iff_le]; omega) | (simp only [ti3, ti4, ti22, ti41]; omega) | (simp [ti3, ti4, ti22, ti41]; omega) | (simp_all; done) | (simp [SV.cellsL, SV.cells]; done) | (simp [SV.cellsL, SV.cells]; omega)) ?_
          refine ops_nil ?_
          refine aw_ret ?_
          -- leaf ret.4t.6t
          refine ret_c ?_
          exact fs_ff (by rw [sameS, decide_eq_false_iff_not]; intro e; exact c6 (by rw [e]))
        · try simp only [Bool.or_eq_true, Bool.and_eq_true, Bool.not_eq_true', Bool.not_eq_false', Bool.or_eq_false_iff, Bool.and_eq_false_imp, decide_eq_true_eq, decide_eq_false_iff_not, Bool.not_true, Bool.not_false, beq_iff_eq, Bool.not_eq_true, Bool.not_eq_false, Bool.true_eq_false, Bool.false_eq_true, not_or, Decidable.not_not, ne_eq] at c6
          try simp only [Int.toNat_natCast, dflt_i, dflt_b, dflt_l, dflt_p, Int.toNat_zero, gt_iff_lt, ge_iff_le] at c6
          refine aw_skip ?_
          refine aw_reg _ (by kernel_rfl) rfl ?_
          iterate 3 refine st (m := false) tabok rfl rfl rfl (by (repeat' apply And.intro); all_goals first | exact True.intro | rfl | omega | (simp only [inr]; omega) | (simp only [IntKind.bits]; omega) | exact fun h => h | (intro hq; rw [hq]; rfl) | (simp only [Int.toNat_natCast, dflt_i, dflt_b, dflt_l, dflt_p, Int.toNat_zero, gt_iff_lt, ge_iff_le]; omega) | (simp only [ti3, ti4, ti22, ti41]; omega) | (simp [ti3, ti4, ti22, ti41]; omega) | (simp_all; done) | (simp [SV.cellsL, SV.cells]; done) | (simp [SV.cellsL, SV.cells]; omega)) ?_
          refine ops_nil ?_
          -- leaf L0.4t.6f
          refine Exists.intro (i + 1) ⟨?_, ?_, ?_⟩
          · exact goes_to (tm := _) (st := _) [] rfl rfl True.intro ⟨(by first | exact sk rfl rfl | exact sk (q_int (by omega)) rfl | exact sk (q_bool (by simp)) rfl | exact sk (q_view rfl rfl rfl (by omega)) rfl | exact sk (q_gview rfl (by simp)) rfl | exact sk (q_nil rfl) rfl | exact sk (q_row (by simp)) rfl | exact sk_g rfl rfl rfl rfl | exact sk_v rfl rfl rfl rfl rfl | exact sk_n rfl), (by first | exact sk rfl rfl | exact sk (q_int (by omega)) rfl | exact sk (q_bool (by simp)) rfl | exact sk (q_view rfl rfl rfl (by omega)) rfl | exact sk (q_gview rfl (by simp)) rfl | exact sk (q_nil rfl) rfl | exact sk (q_row (by simp)) rfl | exact sk_g rfl rfl rfl rfl | exact sk_v rfl rfl rfl rfl rfl | exact sk_n rfl), (by first | exact sk rfl rfl | exact sk (q_int (by omega)) rfl | exact sk (q_bool (by simp)) rfl | exact sk (q_view rfl rfl rfl (by omega)) rfl | exact sk (q_gview rfl (by simp)) rfl | exact sk (q_nil rfl) rfl | exact sk (q_row (by simp)) rfl | exact sk_g rfl rfl rfl rfl | exact sk_v rfl rfl rfl rfl rfl | exact sk_n rfl), True.intro⟩
          · try dsimp only
            refine ⟨by omega, hl, fun k hk => ?_⟩
            by_cases e : k = i
            · subst e; exact c6
            · exact hs k (by omega)
          · (try dsimp only); omega
      · try simp only [Bool.or_eq_true, Bool.and_eq_true, Bool.not_eq_true', Bool.not_eq_false', Bool.or_eq_false_iff, Bool.and_eq_false_imp, decide_eq_true_eq, decide_eq_false_iff_not, Bool.not_true, Bool.not_false, beq_iff_eq, Bool.not_eq_true, Bool.not_eq_false, Bool.true_eq_false, Bool.false_eq_true, not_or, Decidable.not_not, ne_eq] at c4
        try simp only [Int.toNat_natCast, dflt_i, dflt_b, dflt_l, dflt_p, Int.toNat_zero, gt_iff_lt, ge_iff_le] at c4
        refine aw_exit ?_
        refine aw_seq ?_
        refine aw_reg _ (by kernel_rfl) rfl ?_
        refine st (m := false) tabok rfl rfl rfl (by (repeat' apply And.intro); all_goals first | exact True.intro | rfl | omega | (simp only [inr]; omega) | (simp only [IntKind.bits]; omega) | exact fun h => h | (intro hq; rw [hq]; rfl) | (simp only [Int.toNat_natCast, dflt_i, dflt_b, dflt_l, dflt_p, Int.toNat_zero, gt_iff_lt, ge_iff_le]; omega) | (simp only [ti3, ti4, ti22, ti41]; omega) | (simp [ti3, ti4, ti22, ti41]; omega) | (simp_all; done) | (simp [SV.cellsL, SV.cells]; done) | (simp [SV.cellsL, SV.cells]; omega)) ?_
        refine ops_nil ?_
        refine aw_ret ?_
        -- leaf ret.4f
        refine ret_c ?_
        exact fs_tt (by rw [sameS, decide_eq_true_eq]; exact ext_getD 0 hl fun k hk => hs k (by omega))
def lightW (m : Mix) : Bool := decide (m.1.length ≤ 20)
def lightS (m : List Mix) : Bool := (m.take 20).all lightW && decide (((m.length : Nat) : Int) ≤ 20)
theorem light_big {m : List Mix} (h : lightS m = true) : BigM m ∧ m.length ≤ 20 := by
  simp only [lightS, Bool.and_eq_true, decide_eq_true_eq] at h
  obtain ⟨h1, h2⟩ := h
  rw [List.take_of_length_le (by omega)] at h1
  refine ⟨⟨by unfold Big; omega, fun i hi => ?_⟩, by omega⟩
  have := all_get ([], 0) h1 hi
  simp only [lightW, decide_eq_true_eq] at this
  unfold Big
  omega
theorem light_ok (m : List Mix) : CS Try.prog 15 [.row TMix m] (.bool (lightS m)) := by
  refine fn_c [2] Try.func15 Try.ntmps15 rfl rfl rfl rfl ?_
  refine aw_seq ?_
  refine aw_reg _ (by kernel_rfl) rfl ?_
  refine st (m := false) tabok rfl rfl rfl (by (repeat' apply And.intro); all_goals first | exact True.intro | rfl | omega | (simp only [inr]; omega) | (simp only [IntKind.bits]; omega) | exact fun h => h | (intro hq; rw [hq]; rfl) | (simp only [Int.toNat_natCast, dflt_i, dflt_b, dflt_l, dflt_p, Int.toNat_zero, gt_iff_lt, ge_iff_le]; omega) | (simp only [ti3, ti4, ti22, ti41]; omega) | (simp [ti3, ti4, ti22, ti41]; omega) | (simp_all; done) | (simp [SV.cellsL, SV.cells]; done) | (simp [SV.cellsL, SV.cells]; omega)) ?_
  refine ops_nil ?_
  refine aw_seq ?_
  refine aw_seq ?_
  refine aw_reg _ (by kernel_rfl) rfl ?_
  refine st (m := false) tabok rfl rfl rfl (by (repeat' apply And.intro); all_goals first | exact True.intro | rfl | omega | (simp only [inr]; omega) | (simp only [IntKind.bits]; omega) | exact fun h => h | (intro hq; rw [hq]; rfl) | (simp only [Int.toNat_natCast, dflt_i, dflt_b, dflt_l, dflt_p, Int.toNat_zero, gt_iff_lt, ge_iff_le]; omega) | (simp only [ti3, ti4, ti22, ti41]; omega) | (simp [ti3, ti4, ti22, ti41]; omega) | (simp_all; done) | (simp [SV.cellsL, SV.cells]; done) | (simp [SV.cellsL, SV.cells]; omega)) ?_
  refine ops_nil ?_
  refine aw_block ?_
  refine aw_loop (X := (Nat)) (fun (i : Nat) => outT (look [(0, .row TMix m), (3, .int .i64 i)])) (fun (i : Nat) => outS []) (fun (i : Nat) => (i ≤ 20 ∧ i ≤ m.length) ∧ ((m.take i).all lightW = true)) (fun (i : Nat) => m.length - i) (0) ?_ ?_ ?_
  -- leaf L0:entry
  · exact goes_to (tm := _) (st := _) [] rfl rfl True.intro ⟨(by first | exact sk rfl rfl | exact sk (q_int (by omega)) rfl | exact sk (q_bool (by simp)) rfl | exact sk (q_view rfl rfl rfl (by omega)) rfl | exact sk (q_gview rfl (by simp)) rfl | exact sk (q_nil rfl) rfl | exact sk (q_row (by simp)) rfl | exact sk_g rfl rfl rfl rfl | exact sk_v rfl rfl rfl rfl rfl | exact sk_n rfl), (by first | exact sk rfl rfl | exact sk (q_int (by omega)) rfl | exact sk (q_bool (by simp)) rfl | exact sk (q_view rfl rfl rfl (by omega)) rfl | exact sk (q_gview rfl (by simp)) rfl | exact sk (q_nil rfl) rfl | exact sk (q_row (by simp)) rfl | exact sk_g rfl rfl rfl rfl | exact sk_v rfl rfl rfl rfl rfl | exact sk_n rfl), True.intro⟩
  · exact ⟨by omega, rfl⟩
  · skip
    rintro i ⟨hi, ha⟩
    change awpB _ _ _ _ _ (outT (look [(0, .row TMix m), (3, .int .i64 i)])) (outS [])
    refine aw_seq ?_
    refine aw_seq ?_
    refine aw_reg _ (by kernel_rfl) rfl ?_
    iterate 5 refine st (m := false) tabok rfl rfl rfl (by (repeat' apply And.intro); all_goals first | exact True.intro | rfl | omega | (simp only [inr]; omega) | (simp only [IntKind.bits]; omega) | exact fun h => h | (intro hq; rw [hq]; rfl) | (simp only [Int.toNat_natCast, dflt_i, dflt_b, dflt_l, dflt_p, Int.toNat_zero, gt_iff_lt, ge_iff_le]; omega) | (simp only [ti3, ti4, ti22, ti41]; omega) | (simp [ti3, ti4, ti22, ti41]; omega) | (simp_all; done) | (simp [SV.cellsL, SV.cells]; done) | (simp [SV.cellsL, SV.cells]; omega)) ?_
    iterate 2 refine stg (m := false) tabok rfl rfl rfl rfl rfl (by intro hg; have hg0 := hg; (try simp only [Bool.or_eq_true, Bool.and_eq_true, Bool.not_eq_true', Bool.not_eq_false', Bool.or_eq_false_iff, Bool.and_eq_false_imp, decide_eq_true_eq, decide_eq_false_iff_not, Bool.not_true, Bool.not_false, beq_iff_eq, Bool.not_eq_true, Bool.not_eq_false, Bool.true_eq_false, Bool.false_eq_true, not_or, Decidable.not_not, ne_eq] at hg); (try simp only [Int.toNat_natCast, dflt_i, dflt_b, dflt_l, dflt_p, Int.toNat_zero, gt_iff_lt, ge_iff_le] at hg); (repeat' apply And.intro); all_goals first | exact hg0 | exact True.intro | rfl | omega | (simp only [inr]; omega) | (simp only [IntKind.bits]; omega) | (simp only [Bool.or_eq_true, Bool.and_eq_true, Bool.not_eq_true', Bool.not_eq_false', Bool.or_eq_false_iff, Bool.and_eq_false_imp, decide_eq_true_eq, decide_eq_false_iff_not, Bool.not_true, Bool.not_false, beq_iff_eq, Bool.not_eq_true, Bool.not_eq_false, Bool.true_eq_false, Bool.false_eq_true, not_or, Decidable.not_not, ne_eq]; omega) | (simp only [inr, Int.toNat_natCast, dflt_i, dflt_b, dflt_l, dflt_p, Int.toNat_zero, gt_iff_lt, ge_iff_le]; omega) | (simp only [Int.toNat_natCast, dflt_i, dflt_b, dflt_l, dflt_p, Int.toNat_zero, gt_iff_lt, ge_iff_le]; omega) | (simp only [Bool.or_eq_true, Bool.and_eq_true, Bool.not_eq_true', Bool.not_eq_false', Bool.or_eq_false_iff, Bool.and_eq_false_imp, decide_eq_true_eq, decide_eq_false_iff_not, Bool.not_true, Bool.not_false, beq_iff_eq, Bool.not_eq_true, Bool.not_eq_false, Bool.true_eq_false, Bool.false_eq_true, not_or, Decidable.not_not, ne_eq] at hg0 ⊢; simp_all; done) | (simp_all; done) | (simp_all; omega)) ?_
    refine st (m := false) tabok rfl rfl rfl (by (repeat' apply And.intro); all_goals first | exact True.intro | rfl | omega | (simp only [inr]; omega) | (simp only [IntKind.bits]; omega) | exact fun h => h | (intro hq; rw [hq]; rfl) | (simp only [Int.toNat_natCast, dflt_i, dflt_b, dflt_l, dflt_p, Int.toNat_zero, gt_iff_lt, ge_iff_le]; omega) | (simp only [ti3, ti4, ti22, ti41]; omega) | (simp [ti3, ti4, ti22, ti41]; omega) | (simp_all; done) | (simp [SV.cellsL, SV.cells]; done) | (simp [SV.cellsL, SV.cells]; omega)) ?_
    refine ops_nil ?_
    refine aw_if rfl (fun c2 => ?_) (fun c2 => ?_)
    · try simp only [Bool.or_eq_true, Bool.and_eq_true, Bool.not_eq_true', Bool.not_eq_false', Bool.or_eq_false_iff, Bool.and_eq_false_imp, decide_eq_true_eq, decide_eq_false_iff_not, Bool.not_true, Bool.not_false, beq_iff_eq, Bool.not_eq_true, Bool.not_eq_false, Bool.true_eq_false, Bool.false_eq_true, not_or, Decidable.not_not, ne_eq] at c2
      try simp only [Int.toNat_natCast, dflt_i, dflt_b, dflt_l, dflt_p, Int.toNat_zero, gt_iff_lt, ge_iff_le] at c2
      refine aw_skip ?_
      refine aw_seq ?_
      refine aw_block ?_
      refine aw_seq ?_
      refine aw_reg _ (by kernel_rfl) rfl ?_
      iterate 7 refine st (m := false) tabok rfl rfl rfl (by (repeat' apply And.intro); all_goals first | exact True.intro | rfl | omega | (simp only [inr]; omega) | (simp only [IntKind.bits]; omega) | exact fun h => h | (intro hq; rw [hq]; rfl) | (simp only [Int.toNat_natCast, dflt_i, dflt_b, dflt_l, dflt_p, Int.toNat_zero, gt_iff_lt, ge_iff_le]; omega) | (simp only [ti3, ti4, ti22, ti41]; omega) | (simp [ti3, ti4, ti22, ti41]; omega) | (simp_all; done) | (simp [SV.cellsL, SV.cells]; done) | (simp [SV.cellsL, SV.cells]; omega)) ?_
      refine ops_nil ?_
      refine aw_if rfl (fun c4 => ?_) (fun c4 => ?_)
      · try simp only [Bool.or_eq_true, Bool.and_eq_true, Bool.not_eq_true', Bool.not_eq_false', Bool.or_eq_false_iff, Bool.and_eq_false_imp, decide_eq_true_eq, decide_eq_false_iff_not, Bool.not_true, Bool.not_false, beq_iff_eq, Bool.not_eq_true, Bool.not_eq_false, Bool.true_eq_false, Bool.false_eq_true, not_or, Decidable.not_not, ne_eq] at c4
        try simp only [Int.toNat_natCast, dflt_i, dflt_b, dflt_l, dflt_p, Int.toNat_zero, gt_iff_lt, ge_iff_le] at c4
        refine aw_seq ?_
        refine aw_reg _ (by kernel_rfl) rfl ?_
        refine st (m := false) tabok rfl rfl rfl (by (repeat' apply And.intro); all_goals first | exact True.intro | rfl | omega | (simp only [inr]; omega) | (simp only [IntKind.bits]; omega) | exact fun h => h | (intro hq; rw [hq]; rfl) | (simp only [Int.toNat_natCast, dflt_i, dflt_b, dflt_l, dflt_p, Int.toNat_zero, gt_iff_lt, ge_iff_le]; omega) | (simp only [ti3, ti4, ti22, ti41]; omega) | (simp [ti3, ti4, ti22, ti41]; omega) | (simp_all; done) | (simp [SV.cellsL, SV.cells]; done) | (simp [SV.cellsL, SV.cells]; omega)) ?_
        refine ops_nil ?_
        refine aw_ret ?_
        -- leaf ret.2t.4t
        refine ret_c ?_
        refine fs_ff ?_
        have : (m.take 20).all lightW = false := all_not lightW ([], 0) (i := i) (by simp; omega) (by
          rw [List.getD_eq_getElem?_getD, List.getElem?_take, if_pos (by omega), ← List.getD_eq_getElem?_getD]
          simp only [lightW, decide_eq_false_iff_not]
          omega)
        simp [lightS, this]
      · try simp only [Bool.or_eq_true, Bool.and_eq_true, Bool.not_eq_true', Bool.not_eq_false', Bool.or_eq_false_iff, Bool.and_eq_false_imp, decide_eq_true_eq, decide_eq_false_iff_not, Bool.not_true, Bool.not_false, beq_iff_eq, Bool.not_eq_true, Bool.not_eq_false, Bool.true_eq_false, Bool.false_eq_true, not_or, Decidable.not_not, ne_eq] at c4
        try simp only [Int.toNat_natCast, dflt_i, dflt_b, dflt_l, dflt_p, Int.toNat_zero, gt_iff_lt, ge_iff_le] at c4
        refine aw_skip ?_
        refine aw_reg _ (by kernel_rfl) rfl ?_
        iterate 3 refine st (m := false) tabok rfl rfl rfl (by (repeat' apply And.intro); all_goals first | exact True.intro | rfl | omega | (simp only [inr]; omega) | (simp only [IntKind.bits]; omega) | exact fun h => h | (intro hq; rw [hq]; rfl) | (simp only [Int.toNat_natCast, dflt_i, dflt_b, dflt_l, dflt_p, Int.toNat_zero, gt_iff_lt, ge_iff_le]; omega) | (simp only [ti3, ti4, ti22, ti41]; omega) | (simp [ti3, ti4, ti22, ti41]; omega) | (simp_all; done) | (simp [SV.cellsL, SV.cells]; done) | (simp [SV.cellsL, SV.cells]; omega)) ?_
        refine ops_nil ?_
        -- leaf L0.2t.4f
        refine Exists.intro (i + 1) ⟨?_, ?_, ?_⟩
        · exact goes_to (tm := _) (st := _) [] rfl rfl True.intro ⟨(by first | exact sk rfl rfl | exact sk (q_int (by omega)) rfl | exact sk (q_bool (by simp)) rfl | exact sk (q_view rfl rfl rfl (by omega)) rfl | exact sk (q_gview rfl (by simp)) rfl | exact sk (q_nil rfl) rfl | exact sk (q_row (by simp)) rfl | exact sk_g rfl rfl rfl rfl | exact sk_v rfl rfl rfl rfl rfl | exact sk_n rfl), (by first | exact sk rfl rfl | exact sk (q_int (by omega)) rfl | exact sk (q_bool (by simp)) rfl | exact sk (q_view rfl rfl rfl (by omega)) rfl | exact sk (q_gview rfl (by simp)) rfl | exact sk (q_nil rfl) rfl | exact sk (q_row (by simp)) rfl | exact sk_g rfl rfl rfl rfl | exact sk_v rfl rfl rfl rfl rfl | exact sk_n rfl), True.intro⟩
        · try dsimp only
          exact ⟨by omega, by rw [all_take lightW ([], 0) (by omega), ha]; simp only [lightW, Bool.true_and, decide_eq_true_eq]; omega⟩
        · (try dsimp only); omega
    · try simp only [Bool.or_eq_true, Bool.and_eq_true, Bool.not_eq_true', Bool.not_eq_false', Bool.or_eq_false_iff, Bool.and_eq_false_imp, decide_eq_true_eq, decide_eq_false_iff_not, Bool.not_true, Bool.not_false, beq_iff_eq, Bool.not_eq_true, Bool.not_eq_false, Bool.true_eq_false, Bool.false_eq_true, not_or, Decidable.not_not, ne_eq] at c2
      try simp only [Int.toNat_natCast, dflt_i, dflt_b, dflt_l, dflt_p, Int.toNat_zero, gt_iff_lt, ge_iff_le] at c2
      refine aw_exit ?_
      refine aw_seq ?_
      refine aw_reg _ (by kernel_rfl) rfl ?_
      iterate 4 refine st (m := false) tabok rfl rfl rfl (by (repeat' apply And.intro); all_goals first | exact True.intro | rfl | omega | (simp only [inr]; omega) | (simp only [IntKind.bits]; omega) | exact fun h => h | (intro hq; rw [hq]; rfl) | (simp only [Int.toNat_natCast, dflt_i, dflt_b, dflt_l, dflt_p, Int.toNat_zero, gt_iff_lt, ge_iff_le]; omega) | (simp only [ti3, ti4, ti22, ti41]; omega) | (simp [ti3, ti4, ti22, ti41]; omega) | (simp_all; done) | (simp [SV.cellsL, SV.cells]; done) | (simp [SV.cellsL, SV.cells]; omega)) ?_
      refine ops_nil ?_
      refine aw_ret ?_
      -- leaf ret.2f
      refine ret_c ?_
      refine fs_bool ?_
      have h2 : (m.take 20).all lightW = true ∨ ¬ (m.length : Int) ≤ 20 := by
        by_cases h : i = m.length
        · left
          rw [show m.take 20 = m.take i by rw [List.take_of_length_le (show m.length ≤ 20 by omega), List.take_of_length_le (show m.length ≤ i by omega)]]
          exact ha
        · by_cases h20 : i = 20
          · left; rw [← h20]; exact ha
          · exfalso
            simp at c2
            omega
      rcases h2 with h2 | h2
      · simp [lightS, h2]
      · simp [lightS, h2]
abbrev two : List Mix := [([1, 1], 100), ([2, 0], 90)]
theorem two_ok : CS Try.prog 18 [] (.row TMix two) := ccall_run 100 (by kernel_rfl)
theorem bigTwo : BigM two := by refine ⟨by unfold Big; decide, fun i hi => ?_⟩; match i, hi with | 0, _ => unfold Big; decide | 1, _ => unfold Big; decide
end Go.Sim
end
