/- A part of the proof: the walks of this law's functions, and plain laws. -/
import Derived.Test.YtboakgfagjnfgaaQ1
section
namespace Go.Sim
open Go Go.Proofs
set_option maxRecDepth 10000
set_option autoImplicit false
set_option linter.unusedSimpArgs false
set_option linter.unusedVariables false
def nOf (m : List Mix) (j i : Nat) : Int := (m.getD j ([], 0)).1.getD i 0
def lOf (m : List Mix) (j : Nat) : Int := (m.getD j ([], 0)).2
structure Tsk (m : List Mix) (o : List Int) (ov mo : Int) : Prop where
  hm : m.length ≤ 6
  hm1 : 0 < m.length
  ho : o.length ≤ 12
  hc : ∀ j, j < m.length → (m.getD j ([], 0)).1.length = o.length
  hn : ∀ j i, 0 ≤ nOf m j i ∧ nOf m j i ≤ 6
  hl : ∀ j, j < m.length → 1 ≤ lOf m j ∧ lOf m j ≤ 1048576
  hob : ∀ i, 0 ≤ o.getD i 0 ∧ o.getD i 0 ≤ 1000
  hov : 0 ≤ ov ∧ ov ≤ 1000
  hmo : 0 ≤ mo ∧ mo ≤ 40
abbrev schO (m : List Mix) (o : List Int) (ov mo : Int) (k : Nat) (p d : Nat → Int) (c : Int) (nb : Bool) (b : List Int) (le : Int) : SObj :=
  .obj 0 50 0 [.row TMix m, .row TI64 o, .int .i64 ov, .int .i64 mo, .int .i64 k, .arr .i64 6 p, .arr .i64 12 d, .int .i64 c, .nrow nb TI64 b, .int .i64 le]
def exc (o : List Int) (ov : Int) (d : Nat → Int) : Bool := (List.range o.length).any fun i => decide (d i > o.getD i 0 + ov)
theorem exc_iff {o : List Int} {ov : Int} {d : Nat → Int} : exc o ov d = true ↔ ∃ i, i < o.length ∧ d i > o.getD i 0 + ov := by
  simp [exc]
theorem exc_not {o : List Int} {ov : Int} {d : Nat → Int} : exc o ov d = false ↔ ∀ i, i < o.length → d i ≤ o.getD i 0 + ov := by
  simp only [exc, List.any_eq_false, List.mem_range, decide_eq_true_eq]
  exact ⟨fun h i hi => by have := h i hi; omega, fun h i hi => by have := h i hi; omega⟩
section
variable {m : List Mix} {o : List Int} {ov mo : Int} {k : Nat} {p d : Nat → Int} {c : Int} {nb : Bool} {b : List Int} {le : Int}
theorem exceeds_ok (h : Tsk m o ov mo) (hd : ∀ i, 0 ≤ d i ∧ d i ≤ 1440) : SC Try.prog 29 [.ptr 0 0 0] [schO m o ov mo k p d c nb b le] (.bool (exc o ov d)) [schO m o ov mo k p d c nb b le] := by
  have h1 := h.ho
  have h2 := h.hob
  have h3 := h.hov
  refine fn_s [2] rfl Try.func29 Try.ntmps29 rfl rfl rfl ?_
  refine aw_seq ?_
  refine aw_reg _ (by kernel_rfl) rfl ?_
  refine st (m := false) tabok rfl rfl rfl (by (repeat' apply And.intro); all_goals first | exact True.intro | rfl | omega | (simp only [inr]; omega) | (simp only [IntKind.bits]; omega) | exact fun h => h | (intro hq; rw [hq]; rfl) | (simp only [Int.toNat_natCast, dflt_i, dflt_b, dflt_l, dflt_p, Int.toNat_zero, gt_iff_lt, ge_iff_le]; omega) | (simp only [ti3, ti4, ti22, ti41]; omega) | (simp [ti3, ti4, ti22, ti41]; omega) | (simp_all; done) | (simp [SV.cellsL, SV.cells]; done) | (simp [SV.cellsL, SV.cells]; omega)) ?_
  refine ops_nil ?_
  refine aw_seq ?_
  refine aw_seq ?_
  refine aw_reg _ (by kernel_rfl) rfl ?_
  iterate 6 refine st (m := false) tabok rfl rfl rfl (by (repeat' apply And.intro); all_goals first | exact True.intro | rfl | omega | (simp only [inr]; omega) | (simp only [IntKind.bits]; omega) | exact fun h => h | (intro hq; rw [hq]; rfl) | (simp only [Int.toNat_natCast, dflt_i, dflt_b, dflt_l, dflt_p, Int.toNat_zero, gt_iff_lt, ge_iff_le]; omega) | (simp only [ti3, ti4, ti22, ti41]; omega) | (simp [ti3, ti4, ti22, ti41]; omega) | (simp_all; done) | (simp [SV.cellsL, SV.cells]; done) | (simp [SV.cellsL, SV.cells]; omega)) ?_
  refine ops_nil ?_
  refine aw_block ?_
  refine aw_loop (X := (Nat)) (fun (i : Nat) => outT (look [(0, .ptr 0 0 0), (8, .row TI64 o), (9, .int .i64 o.length), (10, .int .i64 i)])) (fun (i : Nat) => outS [schO m o ov mo k p d c nb b le]) (fun (i : Nat) => (i ≤ o.length) ∧ (∀ j, j < i → d j ≤ o.getD j 0 + ov)) (fun (i : Nat) => o.length - i) (0) ?_ ?_ ?_
  -- leaf L0:entry
  · exact goes_to (tm := _) (st := _) [true] rfl rfl ⟨(by first | rfl | exact q_lst (by simp) | exact q_grow (by simp)), True.intro⟩ ⟨(by first | exact sk rfl rfl | exact sk (q_int (by omega)) rfl | exact sk (q_bool (by simp)) rfl | exact sk (q_view rfl rfl rfl (by omega)) rfl | exact sk (q_gview rfl (by simp)) rfl | exact sk (q_nil rfl) rfl | exact sk (q_row (by simp)) rfl | exact sk_g rfl rfl rfl rfl | exact sk_v rfl rfl rfl rfl rfl | exact sk_n rfl), (by first | exact sk rfl rfl | exact sk (q_int (by omega)) rfl | exact sk (q_bool (by simp)) rfl | exact sk (q_view rfl rfl rfl (by omega)) rfl | exact sk (q_gview rfl (by simp)) rfl | exact sk (q_nil rfl) rfl | exact sk (q_row (by simp)) rfl | exact sk_g rfl rfl rfl rfl | exact sk_v rfl rfl rfl rfl rfl | exact sk_n rfl), (by first | exact sk rfl rfl | exact sk (q_int (by omega)) rfl | exact sk (q_bool (by simp)) rfl | exact sk (q_view rfl rfl rfl (by omega)) rfl | exact sk (q_gview rfl (by simp)) rfl | exact sk (q_nil rfl) rfl | exact sk (q_row (by simp)) rfl | exact sk_g rfl rfl rfl rfl | exact sk_v rfl rfl rfl rfl rfl | exact sk_n rfl), (by first | exact sk rfl rfl | exact sk (q_int (by omega)) rfl | exact sk (q_bool (by simp)) rfl | exact sk (q_view rfl rfl rfl (by omega)) rfl | exact sk (q_gview rfl (by simp)) rfl | exact sk (q_nil rfl) rfl | exact sk (q_row (by simp)) rfl | exact sk_g rfl rfl rfl rfl | exact sk_v rfl rfl rfl rfl rfl | exact sk_n rfl), True.intro⟩
  · exact ⟨by omega, fun j hj => absurd hj (by omega)⟩
  · skip
    rintro i ⟨hi, hb⟩
    change awpB _ _ _ _ _ (outT (look [(0, .ptr 0 0 0), (8, .row TI64 o), (9, .int .i64 o.length), (10, .int .i64 i)])) (outS [schO m o ov mo k p d c nb b le])
    refine aw_seq ?_
    refine aw_reg _ (by kernel_rfl) rfl ?_
    refine st (m := false) tabok rfl rfl rfl (by (repeat' apply And.intro); all_goals first | exact True.intro | rfl | omega | (simp only [inr]; omega) | (simp only [IntKind.bits]; omega) | exact fun h => h | (intro hq; rw [hq]; rfl) | (simp only [Int.toNat_natCast, dflt_i, dflt_b, dflt_l, dflt_p, Int.toNat_zero, gt_iff_lt, ge_iff_le]; omega) | (simp only [ti3, ti4, ti22, ti41]; omega) | (simp [ti3, ti4, ti22, ti41]; omega) | (simp_all; done) | (simp [SV.cellsL, SV.cells]; done) | (simp [SV.cellsL, SV.cells]; omega)) ?_
    refine ops_nil ?_
    refine aw_seq ?_
    refine aw_if rfl (fun c2 => ?_) (fun c2 => ?_)
    · try simp only [Bool.or_eq_true, Bool.and_eq_true, Bool.not_eq_true', Bool.not_eq_false', Bool.or_eq_false_iff, Bool.and_eq_false_imp, decide_eq_true_eq, decide_eq_false_iff_not, Bool.not_true, Bool.not_false, beq_iff_eq, Bool.not_eq_true, Bool.not_eq_false, Bool.true_eq_false, Bool.false_eq_true, not_or, Decidable.not_not, ne_eq] at c2
      try simp only [Int.toNat_natCast, dflt_i, dflt_b, dflt_l, dflt_p, Int.toNat_zero, gt_iff_lt, ge_iff_le] at c2
      have h4 := h2 i
      have h5 := hd i
      refine aw_skip ?_
      refine aw_seq ?_
      refine aw_block ?_
      refine aw_seq ?_
      refine aw_reg _ (by kernel_rfl) rfl ?_
      iterate 5 refine st (m := false) tabok rfl rfl rfl (by (repeat' apply And.intro); all_goals first | exact True.intro | rfl | omega | (simp only [inr]; omega) | (simp only [IntKind.bits]; omega) | exact fun h => h | (intro hq; rw [hq]; rfl) | (simp only [Int.toNat_natCast, dflt_i, dflt_b, dflt_l, dflt_p, Int.toNat_zero, gt_iff_lt, ge_iff_le]; omega) | (simp only [ti3, ti4, ti22, ti41]; omega) | (simp [ti3, ti4, ti22, ti41]; omega) | (simp_all; done) | (simp [SV.cellsL, SV.cells]; done) | (simp [SV.cellsL, SV.cells]; omega)) ?_
      refine ops_nil ?_
      refine aw_seq ?_
      refine aw_regD true _ (by kernel_rfl) (by kernel_rfl) (by kernel_rfl) rfl ?_
      iterate 13 refine sd (m := false) tabok rfl rfl rfl (by (repeat' apply And.intro); all_goals first | exact True.intro | rfl | omega | (simp only [inr]; omega) | (simp only [IntKind.bits]; omega) | exact fun h => h | (intro hq; rw [hq]; rfl) | (simp only [Int.toNat_natCast, dflt_i, dflt_b, dflt_l, dflt_p, Int.toNat_zero, gt_iff_lt, ge_iff_le]; omega) | (simp only [ti3, ti4, ti22, ti41]; omega) | (simp [ti3, ti4, ti22, ti41]; omega) | (simp_all; done) | (simp [SV.cellsL, SV.cells]; done) | (simp [SV.cellsL, SV.cells]; omega)) ?_
      refine opd_nil ?_
      refine aw_if rfl (fun c4 => ?_) (fun c4 => ?_)
      · try simp only [Bool.or_eq_true, Bool.and_eq_true, Bool.not_eq_true', Bool.not_eq_false', Bool.or_eq_false_iff, Bool.and_eq_false_imp, decide_eq_true_eq, decide_eq_false_iff_not, Bool.not_true, Bool.not_false, beq_iff_eq, Bool.not_eq_true, Bool.not_eq_false, Bool.true_eq_false, Bool.false_eq_true, not_or, Decidable.not_not, ne_eq] at c4
        try simp only [Int.toNat_natCast, dflt_i, dflt_b, dflt_l, dflt_p, Int.toNat_zero, gt_iff_lt, ge_iff_le] at c4
        refine aw_seq ?_
        refine aw_reg _ (by kernel_rfl) rfl ?_
        refine st (m := false) tabok rfl rfl rfl (by (repeat' apply And.intro); all_goals first | exact True.intro | rfl | omega | (simp only [inr]; omega) | (simp only [IntKind.bits]; omega) | exact fun h => h | (intro hq; rw [hq]; rfl) | (simp only [Int.toNat_natCast, dflt_i, dflt_b, dflt_l, dflt_p, Int.toNat_zero, gt_iff_lt, ge_iff_le]; omega) | (simp only [ti3, ti4, ti22, ti41]; omega) | (simp [ti3, ti4, ti22, ti41]; omega) | (simp_all; done) | (simp [SV.cellsL, SV.cells]; done) | (simp [SV.cellsL, SV.cells]; omega)) ?_
        refine ops_nil ?_
        refine aw_ret ?_
        -- leaf ret.2t.4t
        exact ret_s [(2, .bool (exc o ov d))] (goes_to (tm := _) (st := _) [true] rfl rfl ⟨(by first | rfl | exact q_lst (by simp) | exact q_grow (by simp)), True.intro⟩ ⟨(by refine sk ?_ rfl; exact q_tt (exc_iff.2 ⟨i, by omega, c4⟩)), True.intro⟩) rfl
      · try simp only [Bool.or_eq_true, Bool.and_eq_true, Bool.not_eq_true', Bool.not_eq_false', Bool.or_eq_false_iff, Bool.and_eq_false_imp, decide_eq_true_eq, decide_eq_false_iff_not, Bool.not_true, Bool.not_false, beq_iff_eq, Bool.not_eq_true, Bool.not_eq_false, Bool.true_eq_false, Bool.false_eq_true, not_or, Decidable.not_not, ne_eq] at c4
        try simp only [Int.toNat_natCast, dflt_i, dflt_b, dflt_l, dflt_p, Int.toNat_zero, gt_iff_lt, ge_iff_le] at c4
        refine aw_skip ?_
        refine aw_reg _ (by kernel_rfl) rfl ?_
        iterate 2 refine st (m := false) tabok rfl rfl rfl (by (repeat' apply And.intro); all_goals first | exact True.intro | rfl | omega | (simp only [inr]; omega) | (simp only [IntKind.bits]; omega) | exact fun h => h | (intro hq; rw [hq]; rfl) | (simp only [Int.toNat_natCast, dflt_i, dflt_b, dflt_l, dflt_p, Int.toNat_zero, gt_iff_lt, ge_iff_le]; omega) | (simp only [ti3, ti4, ti22, ti41]; omega) | (simp [ti3, ti4, ti22, ti41]; omega) | (simp_all; done) | (simp [SV.cellsL, SV.cells]; done) | (simp [SV.cellsL, SV.cells]; omega)) ?_
        refine ops_nil ?_
        -- leaf L0.2t.4f
        refine Exists.intro (i + 1) ⟨?_, ?_, ?_⟩
        · exact goes_to (tm := _) (st := _) [true] rfl rfl ⟨(by first | rfl | exact q_lst (by simp) | exact q_grow (by simp)), True.intro⟩ ⟨(by first | exact sk rfl rfl | exact sk (q_int (by omega)) rfl | exact sk (q_bool (by simp)) rfl | exact sk (q_view rfl rfl rfl (by omega)) rfl | exact sk (q_gview rfl (by simp)) rfl | exact sk (q_nil rfl) rfl | exact sk (q_row (by simp)) rfl | exact sk_g rfl rfl rfl rfl | exact sk_v rfl rfl rfl rfl rfl | exact sk_n rfl), (by first | exact sk rfl rfl | exact sk (q_int (by omega)) rfl | exact sk (q_bool (by simp)) rfl | exact sk (q_view rfl rfl rfl (by omega)) rfl | exact sk (q_gview rfl (by simp)) rfl | exact sk (q_nil rfl) rfl | exact sk (q_row (by simp)) rfl | exact sk_g rfl rfl rfl rfl | exact sk_v rfl rfl rfl rfl rfl | exact sk_n rfl), (by first | exact sk rfl rfl | exact sk (q_int (by omega)) rfl | exact sk (q_bool (by simp)) rfl | exact sk (q_view rfl rfl rfl (by omega)) rfl | exact sk (q_gview rfl (by simp)) rfl | exact sk (q_nil rfl) rfl | exact sk (q_row (by simp)) rfl | exact sk_g rfl rfl rfl rfl | exact sk_v rfl rfl rfl rfl rfl | exact sk_n rfl), (by first | exact sk rfl rfl | exact sk (q_int (by omega)) rfl | exact sk (q_bool (by simp)) rfl | exact sk (q_view rfl rfl rfl (by omega)) rfl | exact sk (q_gview rfl (by simp)) rfl | exact sk (q_nil rfl) rfl | exact sk (q_row (by simp)) rfl | exact sk_g rfl rfl rfl rfl | exact sk_v rfl rfl rfl rfl rfl | exact sk_n rfl), True.intro⟩
        · try dsimp only
          refine ⟨by omega, fun j hj => ?_⟩
          by_cases e : j = i
          · subst e; omega
          · exact hb j (by omega)
        · (try dsimp only); omega
    · try simp only [Bool.or_eq_true, Bool.and_eq_true, Bool.not_eq_true', Bool.not_eq_false', Bool.or_eq_false_iff, Bool.and_eq_false_imp, decide_eq_true_eq, decide_eq_false_iff_not, Bool.not_true, Bool.not_false, beq_iff_eq, Bool.not_eq_true, Bool.not_eq_false, Bool.true_eq_false, Bool.false_eq_true, not_or, Decidable.not_not, ne_eq] at c2
      try simp only [Int.toNat_natCast, dflt_i, dflt_b, dflt_l, dflt_p, Int.toNat_zero, gt_iff_lt, ge_iff_le] at c2
      refine aw_exit ?_
      refine aw_seq ?_
      refine aw_reg _ (by kernel_rfl) rfl ?_
      refine st (m := false) tabok rfl rfl rfl (by (repeat' apply And.intro); all_goals first | exact True.intro | rfl | omega | (simp only [inr]; omega) | (simp only [IntKind.bits]; omega) | exact fun h => h | (intro hq; rw [hq]; rfl) | (simp only [Int.toNat_natCast, dflt_i, dflt_b, dflt_l, dflt_p, Int.toNat_zero, gt_iff_lt, ge_iff_le]; omega) | (simp only [ti3, ti4, ti22, ti41]; omega) | (simp [ti3, ti4, ti22, ti41]; omega) | (simp_all; done) | (simp [SV.cellsL, SV.cells]; done) | (simp [SV.cellsL, SV.cells]; omega)) ?_
      refine ops_nil ?_
      refine aw_ret ?_
      -- leaf ret.2f
      exact ret_s [(2, .bool (exc o ov d))] (goes_to (tm := _) (st := _) [true] rfl rfl ⟨(by first | rfl | exact q_lst (by simp) | exact q_grow (by simp)), True.intro⟩ ⟨(by refine sk ?_ rfl; exact q_ff (exc_not.2 fun j hj => hb j (by omega))), True.intro⟩) rfl
def made1 (m : List Mix) (o : List Int) (k : Nat) (n : Int) (d : Nat → Int) (i j : Nat) : Int := if j < i then d j + n * nOf m k j else d j
theorem made1_step (m : List Mix) (o : List Int) (k : Nat) (n : Int) (d : Nat → Int) (i j : Nat) : (if j = i then made1 m o k n d i i + n * nOf m k i else made1 m o k n d i j) = made1 m o k n d (i + 1) j := by
  unfold made1
  by_cases e : j = i
  · subst e; simp
  · have : (j < i + 1) = (j < i) := by apply propext; omega
    simp [e, this]
theorem lay_ok (h : Tsk m o ov mo) (hk : k < m.length) (n : Int) (hn1 : -40 ≤ n ∧ n ≤ 40) (hd : ∀ i, 0 ≤ d i ∧ d i ≤ 1440) (hd2 : ∀ i, i < o.length → 0 ≤ d i + n * nOf m k i ∧ d i + n * nOf m k i ≤ 1440) (hp : 0 ≤ p k ∧ p k ≤ 40) (hc0 : 0 ≤ c ∧ c ≤ 1000000000) (hc1 : 0 ≤ c + n * lOf m k ∧ c + n * lOf m k ≤ 1000000000) :
    SC Try.prog 32 [.ptr 0 0 0, .int .i64 n] [schO m o ov mo k p d c nb b le] (.tup []) [schO m o ov mo k (fun j => if j = k then p k + n else p j) (made1 m o k n d o.length) (c + n * lOf m k) nb b le] := by
  have h1 := h.ho
  have h2 := h.hm
  have h3 := h.hc k hk
  have h4 := h.hl k hk
  refine fn_s [] rfl Try.func32 Try.ntmps32 rfl rfl rfl ?_
  refine aw_seq ?_
  refine aw_regD true _ (by kernel_rfl) (by kernel_rfl) (by kernel_rfl) rfl ?_
  iterate 11 refine sd (m := false) tabok rfl rfl rfl (by (repeat' apply And.intro); all_goals first | exact True.intro | rfl | omega | (simp only [inr]; omega) | (simp only [IntKind.bits]; omega) | exact fun h => h | (intro hq; rw [hq]; rfl) | (simp only [Int.toNat_natCast, dflt_i, dflt_b, dflt_l, dflt_p, Int.toNat_zero, gt_iff_lt, ge_iff_le]; omega) | (simp only [ti3, ti4, ti22, ti41]; omega) | (simp [ti3, ti4, ti22, ti41]; omega) | (simp_all; done) | (simp [SV.cellsL, SV.cells]; done) | (simp [SV.cellsL, SV.cells]; omega)) ?_
  refine sd0 (m := false) tabok rfl rfl rfl (by (repeat' apply And.intro); all_goals first | exact True.intro | rfl | omega | (simp only [inr]; omega) | (simp only [IntKind.bits]; omega) | exact fun h => h | (intro hq; rw [hq]; rfl) | (simp only [Int.toNat_natCast, dflt_i, dflt_b, dflt_l, dflt_p, Int.toNat_zero, gt_iff_lt, ge_iff_le]; omega) | (simp only [ti3, ti4, ti22, ti41]; omega) | (simp [ti3, ti4, ti22, ti41]; omega) | (simp_all; done) | (simp [SV.cellsL, SV.cells]; done) | (simp [SV.cellsL, SV.cells]; omega)) ?_
  refine opd_nil ?_
  refine aw_seq ?_
  refine aw_seq ?_
  refine aw_reg _ (by kernel_rfl) rfl ?_
  iterate 4 refine st (m := false) tabok rfl rfl rfl (by (repeat' apply And.intro); all_goals first | exact True.intro | rfl | omega | (simp only [inr]; omega) | (simp only [IntKind.bits]; omega) | exact fun h => h | (intro hq; rw [hq]; rfl) | (simp only [Int.toNat_natCast, dflt_i, dflt_b, dflt_l, dflt_p, Int.toNat_zero, gt_iff_lt, ge_iff_le]; omega) | (simp only [ti3, ti4, ti22, ti41]; omega) | (simp [ti3, ti4, ti22, ti41]; omega) | (simp_all; done) | (simp [SV.cellsL, SV.cells]; done) | (simp [SV.cellsL, SV.cells]; omega)) ?_
  refine ops_nil ?_
  refine aw_block ?_
  refine aw_loop (X := (Nat)) (fun (i : Nat) => outT (look [(0, .ptr 0 0 0), (1, .int .i64 n), (4, .ptr 1 0 0), (18, .row TI64 (m.getD k ([], 0)).1), (19, .int .i64 (m.getD k ([], 0)).1.length), (20, .int .i64 i)])) (fun (i : Nat) => outS [schO m o ov mo k p (made1 m o k n d i) c nb b le, .obj 0 41 0 [.row TI64 (m.getD k ([], 0)).1, .int .i64 (m.getD k ([], 0)).2]]) (fun (i : Nat) => (i ≤ o.length)) (fun (i : Nat) => o.length - i) (0) ?_ ?_ ?_
  -- leaf L0:entry
  · exact goes_to (tm := _) (st := _) [true, true] rfl rfl ⟨(by first | rfl | exact q_lst (by simp) | exact q_grow (by simp)), (by first | rfl | exact q_lst (by simp) | exact q_grow (by simp)), True.intro⟩ ⟨(by first | exact sk rfl rfl | exact sk (q_int (by omega)) rfl | exact sk (q_bool (by simp)) rfl | exact sk (q_view rfl rfl rfl (by omega)) rfl | exact sk (q_gview rfl (by simp)) rfl | exact sk (q_nil rfl) rfl | exact sk (q_row (by simp)) rfl | exact sk_g rfl rfl rfl rfl | exact sk_v rfl rfl rfl rfl rfl | exact sk_n rfl), (by first | exact sk rfl rfl | exact sk (q_int (by omega)) rfl | exact sk (q_bool (by simp)) rfl | exact sk (q_view rfl rfl rfl (by omega)) rfl | exact sk (q_gview rfl (by simp)) rfl | exact sk (q_nil rfl) rfl | exact sk (q_row (by simp)) rfl | exact sk_g rfl rfl rfl rfl | exact sk_v rfl rfl rfl rfl rfl | exact sk_n rfl), (by first | exact sk rfl rfl | exact sk (q_int (by omega)) rfl | exact sk (q_bool (by simp)) rfl | exact sk (q_view rfl rfl rfl (by omega)) rfl | exact sk (q_gview rfl (by simp)) rfl | exact sk (q_nil rfl) rfl | exact sk (q_row (by simp)) rfl | exact sk_g rfl rfl rfl rfl | exact sk_v rfl rfl rfl rfl rfl | exact sk_n rfl), (by first | exact sk rfl rfl | exact sk (q_int (by omega)) rfl | exact sk (q_bool (by simp)) rfl | exact sk (q_view rfl rfl rfl (by omega)) rfl | exact sk (q_gview rfl (by simp)) rfl | exact sk (q_nil rfl) rfl | exact sk (q_row (by simp)) rfl | exact sk_g rfl rfl rfl rfl | exact sk_v rfl rfl rfl rfl rfl | exact sk_n rfl), (by first | exact sk rfl rfl | exact sk (q_int (by omega)) rfl | exact sk (q_bool (by simp)) rfl | exact sk (q_view rfl rfl rfl (by omega)) rfl | exact sk (q_gview rfl (by simp)) rfl | exact sk (q_nil rfl) rfl | exact sk (q_row (by simp)) rfl | exact sk_g rfl rfl rfl rfl | exact sk_v rfl rfl rfl rfl rfl | exact sk_n rfl), (by first | exact sk rfl rfl | exact sk (q_int (by omega)) rfl | exact sk (q_bool (by simp)) rfl | exact sk (q_view rfl rfl rfl (by omega)) rfl | exact sk (q_gview rfl (by simp)) rfl | exact sk (q_nil rfl) rfl | exact sk (q_row (by simp)) rfl | exact sk_g rfl rfl rfl rfl | exact sk_v rfl rfl rfl rfl rfl | exact sk_n rfl), True.intro⟩
  · first | omega | assumption | simp
  · skip
    rintro i hi
    change awpB _ _ _ _ _ (outT (look [(0, .ptr 0 0 0), (1, .int .i64 n), (4, .ptr 1 0 0), (18, .row TI64 (m.getD k ([], 0)).1), (19, .int .i64 (m.getD k ([], 0)).1.length), (20, .int .i64 i)])) (outS [schO m o ov mo k p (made1 m o k n d i) c nb b le, .obj 0 41 0 [.row TI64 (m.getD k ([], 0)).1, .int .i64 (m.getD k ([], 0)).2]])
    have q1 := hd i
    have q2 := h.hn k i
    have q3 := hd2 i
    have q4 : made1 m o k n d i i = d i := by simp [made1]
    simp only [nOf, lOf] at q1 q2 q3 q4 h4 hc1 hd2
    refine aw_seq ?_
    refine aw_reg _ (by kernel_rfl) rfl ?_
    refine st (m := false) tabok rfl rfl rfl (by (repeat' apply And.intro); all_goals first | exact True.intro | rfl | omega | (simp only [inr]; omega) | (simp only [IntKind.bits]; omega) | exact fun h => h | (intro hq; rw [hq]; rfl) | (simp only [Int.toNat_natCast, dflt_i, dflt_b, dflt_l, dflt_p, Int.toNat_zero, gt_iff_lt, ge_iff_le]; omega) | (simp only [ti3, ti4, ti22, ti41]; omega) | (simp [ti3, ti4, ti22, ti41]; omega) | (simp_all; done) | (simp [SV.cellsL, SV.cells]; done) | (simp [SV.cellsL, SV.cells]; omega)) ?_
    refine ops_nil ?_
    refine aw_seq ?_
    refine aw_if rfl (fun c2 => ?_) (fun c2 => ?_)
    · try simp only [Bool.or_eq_true, Bool.and_eq_true, Bool.not_eq_true', Bool.not_eq_false', Bool.or_eq_false_iff, Bool.and_eq_false_imp, decide_eq_true_eq, decide_eq_false_iff_not, Bool.not_true, Bool.not_false, beq_iff_eq, Bool.not_eq_true, Bool.not_eq_false, Bool.true_eq_false, Bool.false_eq_true, not_or, Decidable.not_not, ne_eq] at c2
      try simp only [Int.toNat_natCast, dflt_i, dflt_b, dflt_l, dflt_p, Int.toNat_zero, gt_iff_lt, ge_iff_le] at c2
      refine aw_skip ?_
      refine aw_seq ?_
      refine aw_block ?_
      refine aw_seq ?_
      refine aw_reg _ (by kernel_rfl) rfl ?_
      iterate 5 refine st (m := false) tabok rfl rfl rfl (by (repeat' apply And.intro); all_goals first | exact True.intro | rfl | omega | (simp only [inr]; omega) | (simp only [IntKind.bits]; omega) | exact fun h => h | (intro hq; rw [hq]; rfl) | (simp only [Int.toNat_natCast, dflt_i, dflt_b, dflt_l, dflt_p, Int.toNat_zero, gt_iff_lt, ge_iff_le]; omega) | (simp only [ti3, ti4, ti22, ti41]; omega) | (simp [ti3, ti4, ti22, ti41]; omega) | (simp_all; done) | (simp [SV.cellsL, SV.cells]; done) | (simp [SV.cellsL, SV.cells]; omega)) ?_
      refine ops_nil ?_
      refine aw_regD true _ (by kernel_rfl) (by kernel_rfl) (by kernel_rfl) rfl ?_
      iterate 13 refine sd (m := false) tabok rfl rfl rfl (by (repeat' apply And.intro); all_goals first | exact True.intro | rfl | omega | (simp only [inr]; omega) | (simp only [IntKind.bits]; omega) | exact fun h => h | (intro hq; rw [hq]; rfl) | (simp only [Int.toNat_natCast, dflt_i, dflt_b, dflt_l, dflt_p, Int.toNat_zero, gt_iff_lt, ge_iff_le]; omega) | (simp only [ti3, ti4, ti22, ti41]; omega) | (simp [ti3, ti4, ti22, ti41]; omega) | (simp_all; done) | (simp [SV.cellsL, SV.cells]; done) | (simp [SV.cellsL, SV.cells]; omega)) ?_
      refine sd0 (m := false) tabok rfl rfl rfl (by (repeat' apply And.intro); all_goals first | exact True.intro | rfl | omega | (simp only [inr]; omega) | (simp only [IntKind.bits]; omega) | exact fun h => h | (intro hq; rw [hq]; rfl) | (simp only [Int.toNat_natCast, dflt_i, dflt_b, dflt_l, dflt_p, Int.toNat_zero, gt_iff_lt, ge_iff_le]; omega) | (simp only [ti3, ti4, ti22, ti41]; omega) | (simp [ti3, ti4, ti22, ti41]; omega) | (simp_all; done) | (simp [SV.cellsL, SV.cells]; done) | (simp [SV.cellsL, SV.cells]; omega)) ?_
      refine opd_nil ?_
      refine aw_reg _ (by kernel_rfl) rfl ?_
      iterate 2 refine st (m := false) tabok rfl rfl rfl (by (repeat' apply And.intro); all_goals first | exact True.intro | rfl | omega | (simp only [inr]; omega) | (simp only [IntKind.bits]; omega) | exact fun h => h | (intro hq; rw [hq]; rfl) | (simp only [Int.toNat_natCast, dflt_i, dflt_b, dflt_l, dflt_p, Int.toNat_zero, gt_iff_lt, ge_iff_le]; omega) | (simp only [ti3, ti4, ti22, ti41]; omega) | (simp [ti3, ti4, ti22, ti41]; omega) | (simp_all; done) | (simp [SV.cellsL, SV.cells]; done) | (simp [SV.cellsL, SV.cells]; omega)) ?_
      refine ops_nil ?_
      -- leaf L0.2t
      refine Exists.intro (i + 1) ⟨?_, ?_, ?_⟩
      · exact goes_to (tm := _) (st := _) [true, true] rfl rfl ⟨(by exact congrArg (fun f => (schO m o ov mo k p f c nb b le).out) (funext fun j => made1_step m o k n d i j)), (by first | rfl | exact q_lst (by simp) | exact q_grow (by simp)), True.intro⟩ ⟨(by first | exact sk rfl rfl | exact sk (q_int (by omega)) rfl | exact sk (q_bool (by simp)) rfl | exact sk (q_view rfl rfl rfl (by omega)) rfl | exact sk (q_gview rfl (by simp)) rfl | exact sk (q_nil rfl) rfl | exact sk (q_row (by simp)) rfl | exact sk_g rfl rfl rfl rfl | exact sk_v rfl rfl rfl rfl rfl | exact sk_n rfl), (by first | exact sk rfl rfl | exact sk (q_int (by omega)) rfl | exact sk (q_bool (by simp)) rfl | exact sk (q_view rfl rfl rfl (by omega)) rfl | exact sk (q_gview rfl (by simp)) rfl | exact sk (q_nil rfl) rfl | exact sk (q_row (by simp)) rfl | exact sk_g rfl rfl rfl rfl | exact sk_v rfl rfl rfl rfl rfl | exact sk_n rfl), (by first | exact sk rfl rfl | exact sk (q_int (by omega)) rfl | exact sk (q_bool (by simp)) rfl | exact sk (q_view rfl rfl rfl (by omega)) rfl | exact sk (q_gview rfl (by simp)) rfl | exact sk (q_nil rfl) rfl | exact sk (q_row (by simp)) rfl | exact sk_g rfl rfl rfl rfl | exact sk_v rfl rfl rfl rfl rfl | exact sk_n rfl), (by first | exact sk rfl rfl | exact sk (q_int (by omega)) rfl | exact sk (q_bool (by simp)) rfl | exact sk (q_view rfl rfl rfl (by omega)) rfl | exact sk (q_gview rfl (by simp)) rfl | exact sk (q_nil rfl) rfl | exact sk (q_row (by simp)) rfl | exact sk_g rfl rfl rfl rfl | exact sk_v rfl rfl rfl rfl rfl | exact sk_n rfl), (by first | exact sk rfl rfl | exact sk (q_int (by omega)) rfl | exact sk (q_bool (by simp)) rfl | exact sk (q_view rfl rfl rfl (by omega)) rfl | exact sk (q_gview rfl (by simp)) rfl | exact sk (q_nil rfl) rfl | exact sk (q_row (by simp)) rfl | exact sk_g rfl rfl rfl rfl | exact sk_v rfl rfl rfl rfl rfl | exact sk_n rfl), (by first | exact sk rfl rfl | exact sk (q_int (by omega)) rfl | exact sk (q_bool (by simp)) rfl | exact sk (q_view rfl rfl rfl (by omega)) rfl | exact sk (q_gview rfl (by simp)) rfl | exact sk (q_nil rfl) rfl | exact sk (q_row (by simp)) rfl | exact sk_g rfl rfl rfl rfl | exact sk_v rfl rfl rfl rfl rfl | exact sk_n rfl), True.intro⟩
      · try dsimp only
        first | omega | assumption | simp
      · (try dsimp only); omega
    · try simp only [Bool.or_eq_true, Bool.and_eq_true, Bool.not_eq_true', Bool.not_eq_false', Bool.or_eq_false_iff, Bool.and_eq_false_imp, decide_eq_true_eq, decide_eq_false_iff_not, Bool.not_true, Bool.not_false, beq_iff_eq, Bool.not_eq_true, Bool.not_eq_false, Bool.true_eq_false, Bool.false_eq_true, not_or, Decidable.not_not, ne_eq] at c2
      try simp only [Int.toNat_natCast, dflt_i, dflt_b, dflt_l, dflt_p, Int.toNat_zero, gt_iff_lt, ge_iff_le] at c2
      refine aw_exit ?_
      refine aw_seq ?_
      refine aw_regD true _ (by kernel_rfl) (by kernel_rfl) (by kernel_rfl) rfl ?_
      iterate 14 refine sd (m := false) tabok rfl rfl rfl (by (repeat' apply And.intro); all_goals first | exact True.intro | rfl | omega | (simp only [inr]; omega) | (simp only [IntKind.bits]; omega) | exact fun h => h | (intro hq; rw [hq]; rfl) | (simp only [Int.toNat_natCast, dflt_i, dflt_b, dflt_l, dflt_p, Int.toNat_zero, gt_iff_lt, ge_iff_le]; omega) | (simp only [ti3, ti4, ti22, ti41]; omega) | (simp [ti3, ti4, ti22, ti41]; omega) | (simp_all; done) | (simp [SV.cellsL, SV.cells]; done) | (simp [SV.cellsL, SV.cells]; omega)) ?_
      refine sd0 (m := false) tabok rfl rfl rfl (by (repeat' apply And.intro); all_goals first | exact True.intro | rfl | omega | (simp only [inr]; omega) | (simp only [IntKind.bits]; omega) | exact fun h => h | (intro hq; rw [hq]; rfl) | (simp only [Int.toNat_natCast, dflt_i, dflt_b, dflt_l, dflt_p, Int.toNat_zero, gt_iff_lt, ge_iff_le]; omega) | (simp only [ti3, ti4, ti22, ti41]; omega) | (simp [ti3, ti4, ti22, ti41]; omega) | (simp_all; done) | (simp [SV.cellsL, SV.cells]; done) | (simp [SV.cellsL, SV.cells]; omega)) ?_
      refine opd_nil ?_
      refine aw_regD true _ (by kernel_rfl) (by kernel_rfl) (by kernel_rfl) rfl ?_
      iterate 11 refine sd (m := false) tabok rfl rfl rfl (by (repeat' apply And.intro); all_goals first | exact True.intro | rfl | omega | (simp only [inr]; omega) | (simp only [IntKind.bits]; omega) | exact fun h => h | (intro hq; rw [hq]; rfl) | (simp only [Int.toNat_natCast, dflt_i, dflt_b, dflt_l, dflt_p, Int.toNat_zero, gt_iff_lt, ge_iff_le]; omega) | (simp only [ti3, ti4, ti22, ti41]; omega) | (simp [ti3, ti4, ti22, ti41]; omega) | (simp_all; done) | (simp [SV.cellsL, SV.cells]; done) | (simp [SV.cellsL, SV.cells]; omega)) ?_
      refine sd0 (m := false) tabok rfl rfl rfl (by (repeat' apply And.intro); all_goals first | exact True.intro | rfl | omega | (simp only [inr]; omega) | (simp only [IntKind.bits]; omega) | exact fun h => h | (intro hq; rw [hq]; rfl) | (simp only [Int.toNat_natCast, dflt_i, dflt_b, dflt_l, dflt_p, Int.toNat_zero, gt_iff_lt, ge_iff_le]; omega) | (simp only [ti3, ti4, ti22, ti41]; omega) | (simp [ti3, ti4, ti22, ti41]; omega) | (simp_all; done) | (simp [SV.cellsL, SV.cells]; done) | (simp [SV.cellsL, SV.cells]; omega)) ?_
      refine opd_nil ?_
      -- leaf ret.2f
      have e : i = o.length := by omega
      subst e
      exact ret_sn [] (goes_to (tm := _) (st := _) [true] rfl rfl ⟨(by first | rfl | exact q_lst (by simp) | exact q_grow (by simp)), True.intro⟩ True.intro) rfl
theorem clone_ok (n : Nat) (hn : 0 < n ∧ n ≤ 6) : SC Try.prog 36 [.view 0 0 5 n] [schO m o ov mo k p d c nb b le] (.nrow false TI64 ((List.range n).map p)) [schO m o ov mo k p d c nb b le] := by
  refine fn_s [2] rfl Try.func36 Try.ntmps36 rfl rfl rfl ?_
  refine aw_seq ?_
  refine aw_reg _ (by kernel_rfl) rfl ?_
  refine st (m := false) tabok rfl rfl rfl (by (repeat' apply And.intro); all_goals first | exact True.intro | rfl | omega | (simp only [inr]; omega) | (simp only [IntKind.bits]; omega) | exact fun h => h | (intro hq; rw [hq]; rfl) | (simp only [Int.toNat_natCast, dflt_i, dflt_b, dflt_l, dflt_p, Int.toNat_zero, gt_iff_lt, ge_iff_le]; omega) | (simp only [ti3, ti4, ti22, ti41]; omega) | (simp [ti3, ti4, ti22, ti41]; omega) | (simp_all; done) | (simp [SV.cellsL, SV.cells]; done) | (simp [SV.cellsL, SV.cells]; omega)) ?_
  refine ops_nil ?_
  refine aw_seq ?_
  refine aw_seq ?_
  refine aw_reg _ (by kernel_rfl) rfl ?_
  iterate 2 refine st (m := false) tabok rfl rfl rfl (by (repeat' apply And.intro); all_goals first | exact True.intro | rfl | omega | (simp only [inr]; omega) | (simp only [IntKind.bits]; omega) | exact fun h => h | (intro hq; rw [hq]; rfl) | (simp only [Int.toNat_natCast, dflt_i, dflt_b, dflt_l, dflt_p, Int.toNat_zero, gt_iff_lt, ge_iff_le]; omega) | (simp only [ti3, ti4, ti22, ti41]; omega) | (simp [ti3, ti4, ti22, ti41]; omega) | (simp_all; done) | (simp [SV.cellsL, SV.cells]; done) | (simp [SV.cellsL, SV.cells]; omega)) ?_
  refine ops_nil ?_
  refine aw_if rfl (fun c1 => absurd c1 Bool.false_ne_true) (fun c1 => ?_)
  refine aw_skip ?_
  refine aw_seq ?_
  refine aw_reg _ (by kernel_rfl) rfl ?_
  iterate 2 refine st (m := false) tabok rfl rfl rfl (by (repeat' apply And.intro); all_goals first | exact True.intro | rfl | omega | (simp only [inr]; omega) | (simp only [IntKind.bits]; omega) | exact fun h => h | (intro hq; rw [hq]; rfl) | (simp only [Int.toNat_natCast, dflt_i, dflt_b, dflt_l, dflt_p, Int.toNat_zero, gt_iff_lt, ge_iff_le]; omega) | (simp only [ti3, ti4, ti22, ti41]; omega) | (simp [ti3, ti4, ti22, ti41]; omega) | (simp_all; done) | (simp [SV.cellsL, SV.cells]; done) | (simp [SV.cellsL, SV.cells]; omega)) ?_
  refine sap tabok rfl rfl (by kernel_rfl) rfl (by (repeat' apply And.intro); all_goals first | exact True.intro | rfl | omega | (simp [ti3]; omega) | (simp; done) | (simp; omega)) ?_
  refine st (m := false) tabok rfl rfl rfl (by (repeat' apply And.intro); all_goals first | exact True.intro | rfl | omega | (simp only [inr]; omega) | (simp only [IntKind.bits]; omega) | exact fun h => h | (intro hq; rw [hq]; rfl) | (simp only [Int.toNat_natCast, dflt_i, dflt_b, dflt_l, dflt_p, Int.toNat_zero, gt_iff_lt, ge_iff_le]; omega) | (simp only [ti3, ti4, ti22, ti41]; omega) | (simp [ti3, ti4, ti22, ti41]; omega) | (simp_all; done) | (simp [SV.cellsL, SV.cells]; done) | (simp [SV.cellsL, SV.cells]; omega)) ?_
  refine ops_nil ?_
  refine aw_ret ?_
  -- leaf ret
  exact ret_s [(2, .row TI64 ((List.range n).map p))] (goes_to (tm := _) (st := _) [true] rfl rfl ⟨(by first | rfl | exact q_lst (by simp) | exact q_grow (by simp)), True.intro⟩ ⟨(by exact sk_v rfl rfl (by simp) rfl rfl), True.intro⟩) rfl
theorem keep_ok (h : Tsk m o ov mo) : SC Try.prog 31 [.ptr 0 0 0] [schO m o ov mo k p d c nb b le] (.tup []) [schO m o ov mo k p d c false ((List.range m.length).map p) c] := by
  have h1 := h.hm
  have h2 := h.hm1
  refine fn_s [] rfl Try.func31 Try.ntmps31 rfl rfl rfl ?_
  refine aw_seq ?_
  refine aw_regC true 1 10 (by kernel_rfl) (by kernel_rfl) (by kernel_rfl) rfl rfl rfl ?_
  refine sd (m := false) tabok rfl rfl rfl (by (repeat' apply And.intro); all_goals first | exact True.intro | rfl | omega | (simp only [inr]; omega) | (simp only [IntKind.bits]; omega) | exact fun h => h | (intro hq; rw [hq]; rfl) | (simp only [Int.toNat_natCast, dflt_i, dflt_b, dflt_l, dflt_p, Int.toNat_zero, gt_iff_lt, ge_iff_le]; omega) | (simp only [ti3, ti4, ti22, ti41]; omega) | (simp [ti3, ti4, ti22, ti41]; omega) | (simp_all; done) | (simp [SV.cellsL, SV.cells]; done) | (simp [SV.cellsL, SV.cells]; omega)) ?_
  refine opd_nil ?_
  iterate 9 refine sd (m := false) tabok rfl rfl rfl (by (repeat' apply And.intro); all_goals first | exact True.intro | rfl | omega | (simp only [inr]; omega) | (simp only [IntKind.bits]; omega) | exact fun h => h | (intro hq; rw [hq]; rfl) | (simp only [Int.toNat_natCast, dflt_i, dflt_b, dflt_l, dflt_p, Int.toNat_zero, gt_iff_lt, ge_iff_le]; omega) | (simp only [ti3, ti4, ti22, ti41]; omega) | (simp [ti3, ti4, ti22, ti41]; omega) | (simp_all; done) | (simp [SV.cellsL, SV.cells]; done) | (simp [SV.cellsL, SV.cells]; omega)) ?_
  refine opd_nil ?_
  refine sca [0] (clone_ok m.length (by omega)) rfl rfl (by kernel_rfl) rfl (by kernel_rfl) rfl rfl rfl rfl rfl rfl rfl rfl rfl rfl ⟨(by first | rfl | exact q_obj rfl), True.intro⟩ (.cons (by first | exact argw_same | exact argw_nil | exact argw_tt | exact argw_ff | exact argw_eq rfl) .nil) ?_
  iterate 2 refine st (m := false) tabok rfl rfl rfl (by (repeat' apply And.intro); all_goals first | exact True.intro | rfl | omega | (simp only [inr]; omega) | (simp only [IntKind.bits]; omega) | exact fun h => h | (intro hq; rw [hq]; rfl) | (simp only [Int.toNat_natCast, dflt_i, dflt_b, dflt_l, dflt_p, Int.toNat_zero, gt_iff_lt, ge_iff_le]; omega) | (simp only [ti3, ti4, ti22, ti41]; omega) | (simp [ti3, ti4, ti22, ti41]; omega) | (simp_all; done) | (simp [SV.cellsL, SV.cells]; done) | (simp [SV.cellsL, SV.cells]; omega)) ?_
  refine st0 (m := false) tabok rfl rfl rfl (by (repeat' apply And.intro); all_goals first | exact True.intro | rfl | omega | (simp only [inr]; omega) | (simp only [IntKind.bits]; omega) | exact fun h => h | (intro hq; rw [hq]; rfl) | (simp only [Int.toNat_natCast, dflt_i, dflt_b, dflt_l, dflt_p, Int.toNat_zero, gt_iff_lt, ge_iff_le]; omega) | (simp only [ti3, ti4, ti22, ti41]; omega) | (simp [ti3, ti4, ti22, ti41]; omega) | (simp_all; done) | (simp [SV.cellsL, SV.cells]; done) | (simp [SV.cellsL, SV.cells]; omega)) ?_
  refine ops_nil ?_
  refine aw_reg _ (by kernel_rfl) rfl ?_
  iterate 7 refine st (m := false) tabok rfl rfl rfl (by (repeat' apply And.intro); all_goals first | exact True.intro | rfl | omega | (simp only [inr]; omega) | (simp only [IntKind.bits]; omega) | exact fun h => h | (intro hq; rw [hq]; rfl) | (simp only [Int.toNat_natCast, dflt_i, dflt_b, dflt_l, dflt_p, Int.toNat_zero, gt_iff_lt, ge_iff_le]; omega) | (simp only [ti3, ti4, ti22, ti41]; omega) | (simp [ti3, ti4, ti22, ti41]; omega) | (simp_all; done) | (simp [SV.cellsL, SV.cells]; done) | (simp [SV.cellsL, SV.cells]; omega)) ?_
  refine st0 (m := false) tabok rfl rfl rfl (by (repeat' apply And.intro); all_goals first | exact True.intro | rfl | omega | (simp only [inr]; omega) | (simp only [IntKind.bits]; omega) | exact fun h => h | (intro hq; rw [hq]; rfl) | (simp only [Int.toNat_natCast, dflt_i, dflt_b, dflt_l, dflt_p, Int.toNat_zero, gt_iff_lt, ge_iff_le]; omega) | (simp only [ti3, ti4, ti22, ti41]; omega) | (simp [ti3, ti4, ti22, ti41]; omega) | (simp_all; done) | (simp [SV.cellsL, SV.cells]; done) | (simp [SV.cellsL, SV.cells]; omega)) ?_
  refine ops_nil ?_
  -- leaf ret
  exact ret_sn [] (goes_to (tm := _) (st := _) [true] rfl rfl ⟨(by first | rfl | exact q_lst (by simp) | exact q_grow (by simp)), True.intro⟩ True.intro) rfl
def capN (R : List Mix) (i : Nat) (mo : Int) : Nat → Int
  | 0 => 0
  | j + 1 => if 0 < nOf R j i then capN R i mo j + nOf R j i * mo else capN R i mo j
def priceN (R : List Mix) (i : Nat) (left : Int) (j : Nat) : Int := (left * lOf R j + nOf R j i - 1) / nOf R j i
def chN (R : List Mix) (i : Nat) (left : Int) : Nat → Int
  | 0 => 0
  | j + 1 => if 0 < nOf R j i ∧ (chN R i left j = 0 ∨ priceN R i left j < chN R i left j) then priceN R i left j else chN R i left j
def outN (R : List Mix) (o : List Int) (d : Nat → Int) : Nat → Int
  | 0 => 0
  | i + 1 => if o.getD i 0 - d i ≤ 0 then outN R o d i else max (outN R o d i) (chN R i (o.getD i 0 - d i) R.length)
theorem outN_s (R : List Mix) (o : List Int) (d : Nat → Int) (i : Nat) : outN R o d (i + 1) = if o.getD i 0 - d i ≤ 0 then outN R o d i else max (outN R o d i) (chN R i (o.getD i 0 - d i) R.length) := rfl
theorem capN_s (R : List Mix) (i : Nat) (mo : Int) (j : Nat) : capN R i mo (j + 1) = if 0 < nOf R j i then capN R i mo j + nOf R j i * mo else capN R i mo j := rfl
theorem chN_s (R : List Mix) (i : Nat) (left : Int) (j : Nat) : chN R i left (j + 1) = if 0 < nOf R j i ∧ (chN R i left j = 0 ∨ priceN R i left j < chN R i left j) then priceN R i left j else chN R i left j := rfl
theorem quo_rng {a b : Int} (ha : 0 ≤ a) (hb : 0 < b) : 0 ≤ a / b ∧ a / b ≤ a := ⟨Int.ediv_nonneg ha (by omega), Int.ediv_le_self b ha⟩
def ableB (R : List Mix) (o : List Int) (mo : Int) (d : Nat → Int) : Bool := (List.range o.length).all fun i => decide (o.getD i 0 - d i ≤ 0) || decide (o.getD i 0 - d i ≤ capN R i mo R.length)
theorem ableB_iff {R : List Mix} {o : List Int} {mo : Int} {d : Nat → Int} : ableB R o mo d = true ↔ ∀ i, i < o.length → 0 < o.getD i 0 - d i → o.getD i 0 - d i ≤ capN R i mo R.length := by
  simp only [ableB, List.all_eq_true, List.mem_range, Bool.or_eq_true, decide_eq_true_eq]
  exact ⟨fun h i hi h0 => by have := h i hi; omega, fun h i hi => by have := h i hi; omega⟩
theorem mul_rng {a b A B : Int} (h1 : 0 ≤ a) (h2 : a ≤ A) (h3 : 0 ≤ b) (h4 : b ≤ B) : 0 ≤ a * b ∧ a * b ≤ A * B := ⟨Int.mul_nonneg h1 h3, Int.mul_le_mul h2 h4 h3 (Int.le_trans h1 h2)⟩
theorem nOf_drop (m : List Mix) (a j i : Nat) : nOf (m.drop a) j i = nOf m (a + j) i := by simp [nOf, List.getD_eq_getElem?_getD]
theorem lOf_drop (m : List Mix) (a j : Nat) : lOf (m.drop a) j = lOf m (a + j) := by simp [lOf, List.getD_eq_getElem?_getD]
theorem capN_rng {R : List Mix} {i : Nat} {mo : Int} (hn : ∀ j, 0 ≤ nOf R j i ∧ nOf R j i ≤ 6) (hmo : 0 ≤ mo ∧ mo ≤ 40) : ∀ j, 0 ≤ capN R i mo j ∧ capN R i mo j ≤ 240 * (j : Nat)
  | 0 => by simp [capN]
  | j + 1 => by
    have := capN_rng hn hmo j
    have h1 := mul_rng (hn j).1 (hn j).2 hmo.1 hmo.2
    unfold capN
    split <;> omega
theorem rest_ok (h : Tsk m o ov mo) (k : Nat) : (m.drop (k + 1)).length ≤ 6 ∧ (∀ j, j < (m.drop (k + 1)).length → ((m.drop (k + 1)).getD j ([], 0)).1.length = o.length) ∧ (∀ i j, 0 ≤ nOf (m.drop (k + 1)) j i ∧ nOf (m.drop (k + 1)) j i ≤ 6) ∧
    ∀ j, j < (m.drop (k + 1)).length → 1 ≤ lOf (m.drop (k + 1)) j ∧ lOf (m.drop (k + 1)) j ≤ 1048576 := by
  have h4 := h.hm
  refine ⟨by simp; omega, fun j hj => ?_, fun i j => by rw [nOf_drop]; exact h.hn _ _, fun j hj => ?_⟩
  · rw [List.length_drop] at hj
    have := h.hc (k + 1 + j) (by omega)
    simpa [List.getD_eq_getElem?_getD] using this
  · rw [List.length_drop] at hj
    rw [lOf_drop]
    exact h.hl _ (by omega)
theorem bound_ok (h : Tsk m o ov mo) (hk : k < m.length) (hd : ∀ i, 0 ≤ d i ∧ d i ≤ 1440) : SC Try.prog 35 [.ptr 0 0 0] [schO m o ov mo k p d c nb b le] (.tup [.int .i64 (if ableB (m.drop (k + 1)) o mo d = true then outN (m.drop (k + 1)) o d o.length else 0), .bool (ableB (m.drop (k + 1)) o mo d)]) [schO m o ov mo k p d c nb b le] := by
  have h1 := h.ho
  have h2 := h.hob
  have h3 := h.hmo
  have h4 := h.hm
  obtain ⟨hlen, hR1, hR2, hR3⟩ := rest_ok h k
  refine fn_s [2, 3] rfl Try.func35 Try.ntmps35 rfl rfl rfl ?_
  refine aw_seq ?_
  refine aw_reg _ (by kernel_rfl) rfl ?_
  iterate 2 refine st (m := false) tabok rfl rfl rfl (by (repeat' apply And.intro); all_goals first | exact True.intro | rfl | omega | (simp only [inr]; omega) | (simp only [IntKind.bits]; omega) | exact fun h => h | (intro hq; rw [hq]; rfl) | (simp only [Int.toNat_natCast, dflt_i, dflt_b, dflt_l, dflt_p, Int.toNat_zero, gt_iff_lt, ge_iff_le]; omega) | (simp only [ti3, ti4, ti22, ti41]; omega) | (simp [ti3, ti4, ti22, ti41]; omega) | (simp_all; done) | (simp [SV.cellsL, SV.cells]; done) | (simp [SV.cellsL, SV.cells]; omega)) ?_
  refine ops_nil ?_
  refine aw_seq ?_
  refine aw_reg _ (by kernel_rfl) rfl ?_
  refine st (m := false) tabok rfl rfl rfl (by (repeat' apply And.intro); all_goals first | exact True.intro | rfl | omega | (simp only [inr]; omega) | (simp only [IntKind.bits]; omega) | exact fun h => h | (intro hq; rw [hq]; rfl) | (simp only [Int.toNat_natCast, dflt_i, dflt_b, dflt_l, dflt_p, Int.toNat_zero, gt_iff_lt, ge_iff_le]; omega) | (simp only [ti3, ti4, ti22, ti41]; omega) | (simp [ti3, ti4, ti22, ti41]; omega) | (simp_all; done) | (simp [SV.cellsL, SV.cells]; done) | (simp [SV.cellsL, SV.cells]; omega)) ?_
  refine ops_nil ?_
  refine aw_seq ?_
  refine aw_regD true _ (by kernel_rfl) (by kernel_rfl) (by kernel_rfl) rfl ?_
  iterate 11 refine sd (m := false) tabok rfl rfl rfl (by (repeat' apply And.intro); all_goals first | exact True.intro | rfl | omega | (simp only [inr]; omega) | (simp only [IntKind.bits]; omega) | exact fun h => h | (intro hq; rw [hq]; rfl) | (simp only [Int.toNat_natCast, dflt_i, dflt_b, dflt_l, dflt_p, Int.toNat_zero, gt_iff_lt, ge_iff_le]; omega) | (simp only [ti3, ti4, ti22, ti41]; omega) | (simp [ti3, ti4, ti22, ti41]; omega) | (simp_all; done) | (simp [SV.cellsL, SV.cells]; done) | (simp [SV.cellsL, SV.cells]; omega)) ?_
  refine opd_nil ?_
  refine aw_seq ?_
  refine aw_seq ?_
  refine aw_reg _ (by kernel_rfl) rfl ?_
  iterate 6 refine st (m := false) tabok rfl rfl rfl (by (repeat' apply And.intro); all_goals first | exact True.intro | rfl | omega | (simp only [inr]; omega) | (simp only [IntKind.bits]; omega) | exact fun h => h | (intro hq; rw [hq]; rfl) | (simp only [Int.toNat_natCast, dflt_i, dflt_b, dflt_l, dflt_p, Int.toNat_zero, gt_iff_lt, ge_iff_le]; omega) | (simp only [ti3, ti4, ti22, ti41]; omega) | (simp [ti3, ti4, ti22, ti41]; omega) | (simp_all; done) | (simp [SV.cellsL, SV.cells]; done) | (simp [SV.cellsL, SV.cells]; omega)) ?_
  refine ops_nil ?_
  refine aw_block ?_
  refine aw_loop (X := (Nat)) (fun (i : Nat) => outT (look [(0, .ptr 0 0 0), (4, .int .i64 (outN (m.drop (k + 1)) o d i)), (5, .row TMix (m.drop (k + 1))), (28, .row TI64 o), (29, .int .i64 o.length), (30, .int .i64 i)])) (fun (i : Nat) => outS [schO m o ov mo k p d c nb b le]) (fun (i : Nat) => (i ≤ o.length) ∧ (∀ j, j < i → 0 < o.getD j 0 - d j → o.getD j 0 - d j ≤ capN (m.drop (k + 1)) j mo (m.drop (k + 1)).length)) (fun (i : Nat) => o.length - i) (0) ?_ ?_ ?_
  -- leaf L0:entry
  · exact goes_to (tm := _) (st := _) [true] rfl rfl ⟨(by first | rfl | exact q_lst (by simp) | exact q_grow (by simp)), True.intro⟩ ⟨(by first | exact sk rfl rfl | exact sk (q_int (by omega)) rfl | exact sk (q_bool (by simp)) rfl | exact sk (q_view rfl rfl rfl (by omega)) rfl | exact sk (q_gview rfl (by simp)) rfl | exact sk (q_nil rfl) rfl | exact sk (q_row (by simp)) rfl | exact sk_g rfl rfl rfl rfl | exact sk_v rfl rfl rfl rfl rfl | exact sk_n rfl), (by first | exact sk rfl rfl | exact sk (q_int (by omega)) rfl | exact sk (q_bool (by simp)) rfl | exact sk (q_view rfl rfl rfl (by omega)) rfl | exact sk (q_gview rfl (by simp)) rfl | exact sk (q_nil rfl) rfl | exact sk (q_row (by simp)) rfl | exact sk_g rfl rfl rfl rfl | exact sk_v rfl rfl rfl rfl rfl | exact sk_n rfl), (by first | exact sk rfl rfl | exact sk (q_int (by omega)) rfl | exact sk (q_bool (by simp)) rfl | exact sk (q_view rfl rfl rfl (by omega)) rfl | exact sk (q_gview rfl (by simp)) rfl | exact sk (q_nil rfl) rfl | exact sk (q_row (by simp)) rfl | exact sk_g rfl rfl rfl rfl | exact sk_v rfl rfl rfl rfl rfl | exact sk_n rfl), (by first | exact sk rfl rfl | exact sk (q_int (by omega)) rfl | exact sk (q_bool (by simp)) rfl | exact sk (q_view rfl rfl rfl (by omega)) rfl | exact sk (q_gview rfl (by simp)) rfl | exact sk (q_nil rfl) rfl | exact sk (q_row (by simp)) rfl | exact sk_g rfl rfl rfl rfl | exact sk_v rfl rfl rfl rfl rfl | exact sk_n rfl), (by first | exact sk rfl rfl | exact sk (q_int (by omega)) rfl | exact sk (q_bool (by simp)) rfl | exact sk (q_view rfl rfl rfl (by omega)) rfl | exact sk (q_gview rfl (by simp)) rfl | exact sk (q_nil rfl) rfl | exact sk (q_row (by simp)) rfl | exact sk_g rfl rfl rfl rfl | exact sk_v rfl rfl rfl rfl rfl | exact sk_n rfl), (by first | exact sk rfl rfl | exact sk (q_int (by omega)) rfl | exact sk (q_bool (by simp)) rfl | exact sk (q_view rfl rfl rfl (by omega)) rfl | exact sk (q_gview rfl (by simp)) rfl | exact sk (q_nil rfl) rfl | exact sk (q_row (by simp)) rfl | exact sk_g rfl rfl rfl rfl | exact sk_v rfl rfl rfl rfl rfl | exact sk_n rfl), True.intro⟩
  · exact ⟨by omega, fun j hj => absurd hj (by omega)⟩
  · skip
    rintro i ⟨hi, hb⟩
    change awpB _ _ _ _ _ (outT (look [(0, .ptr 0 0 0), (4, .int .i64 (outN (m.drop (k + 1)) o d i)), (5, .row TMix (m.drop (k + 1))), (28, .row TI64 o), (29, .int .i64 o.length), (30, .int .i64 i)])) (outS [schO m o ov mo k p d c nb b le])
    have h5 := h2 i
    have h6 := hd i
    refine aw_seq ?_
    refine aw_reg _ (by kernel_rfl) rfl ?_
    refine st (m := false) tabok rfl rfl rfl (by (repeat' apply And.intro); all_goals first | exact True.intro | rfl | omega | (simp only [inr]; omega) | (simp only [IntKind.bits]; omega) | exact fun h => h | (intro hq; rw [hq]; rfl) | (simp only [Int.toNat_natCast, dflt_i, dflt_b, dflt_l, dflt_p, Int.toNat_zero, gt_iff_lt, ge_iff_le]; omega) | (simp only [ti3, ti4, ti22, ti41]; omega) | (simp [ti3, ti4, ti22, ti41]; omega) | (simp_all; done) | (simp [SV.cellsL, SV.cells]; done) | (simp [SV.cellsL, SV.cells]; omega)) ?_
    refine ops_nil ?_
    refine aw_seq ?_
    refine aw_if rfl (fun c4 => ?_) (fun c4 => ?_)
    · try simp only [Bool.or_eq_true, Bool.and_eq_true, Bool.not_eq_true', Bool.not_eq_false', Bool.or_eq_false_iff, Bool.and_eq_false_imp, decide_eq_true_eq, decide_eq_false_iff_not, Bool.not_true, Bool.not_false, beq_iff_eq, Bool.not_eq_true, Bool.not_eq_false, Bool.true_eq_false, Bool.false_eq_true, not_or, Decidable.not_not, ne_eq] at c4
      try simp only [Int.toNat_natCast, dflt_i, dflt_b, dflt_l, dflt_p, Int.toNat_zero, gt_iff_lt, ge_iff_le] at c4
      refine aw_skip ?_
      refine aw_seq ?_
      refine aw_block ?_
      refine aw_seq ?_
      refine aw_reg _ (by kernel_rfl) rfl ?_
      iterate 5 refine st (m := false) tabok rfl rfl rfl (by (repeat' apply And.intro); all_goals first | exact True.intro | rfl | omega | (simp only [inr]; omega) | (simp only [IntKind.bits]; omega) | exact fun h => h | (intro hq; rw [hq]; rfl) | (simp only [Int.toNat_natCast, dflt_i, dflt_b, dflt_l, dflt_p, Int.toNat_zero, gt_iff_lt, ge_iff_le]; omega) | (simp only [ti3, ti4, ti22, ti41]; omega) | (simp [ti3, ti4, ti22, ti41]; omega) | (simp_all; done) | (simp [SV.cellsL, SV.cells]; done) | (simp [SV.cellsL, SV.cells]; omega)) ?_
      refine ops_nil ?_
      refine aw_seq ?_
      refine aw_reg _ (by kernel_rfl) rfl ?_
      iterate 9 refine st (m := false) tabok rfl rfl rfl (by (repeat' apply And.intro); all_goals first | exact True.intro | rfl | omega | (simp only [inr]; omega) | (simp only [IntKind.bits]; omega) | exact fun h => h | (intro hq; rw [hq]; rfl) | (simp only [Int.toNat_natCast, dflt_i, dflt_b, dflt_l, dflt_p, Int.toNat_zero, gt_iff_lt, ge_iff_le]; omega) | (simp only [ti3, ti4, ti22, ti41]; omega) | (simp [ti3, ti4, ti22, ti41]; omega) | (simp_all; done) | (simp [SV.cellsL, SV.cells]; done) | (simp [SV.cellsL, SV.cells]; omega)) ?_
      refine ops_nil ?_
      refine aw_seq ?_
      refine aw_seq ?_
      refine aw_reg _ (by kernel_rfl) rfl ?_
      iterate 2 refine st (m := false) tabok rfl rfl rfl (by (repeat' apply And.intro); all_goals first | exact True.intro | rfl | omega | (simp only [inr]; omega) | (simp only [IntKind.bits]; omega) | exact fun h => h | (intro hq; rw [hq]; rfl) | (simp only [Int.toNat_natCast, dflt_i, dflt_b, dflt_l, dflt_p, Int.toNat_zero, gt_iff_lt, ge_iff_le]; omega) | (simp only [ti3, ti4, ti22, ti41]; omega) | (simp [ti3, ti4, ti22, ti41]; omega) | (simp_all; done) | (simp [SV.cellsL, SV.cells]; done) | (simp [SV.cellsL, SV.cells]; omega)) ?_
      refine ops_nil ?_
      refine aw_if rfl (fun c7 => ?_) (fun c7 => ?_)
      · try simp only [Bool.or_eq_true, Bool.and_eq_true, Bool.not_eq_true', Bool.not_eq_false', Bool.or_eq_false_iff, Bool.and_eq_false_imp, decide_eq_true_eq, decide_eq_false_iff_not, Bool.not_true, Bool.not_false, beq_iff_eq, Bool.not_eq_true, Bool.not_eq_false, Bool.true_eq_false, Bool.false_eq_true, not_or, Decidable.not_not, ne_eq] at c7
        try simp only [Int.toNat_natCast, dflt_i, dflt_b, dflt_l, dflt_p, Int.toNat_zero, gt_iff_lt, ge_iff_le] at c7
        refine aw_exit ?_
        refine aw_reg _ (by kernel_rfl) rfl ?_
        iterate 2 refine st (m := false) tabok rfl rfl rfl (by (repeat' apply And.intro); all_goals first | exact True.intro | rfl | omega | (simp only [inr]; omega) | (simp only [IntKind.bits]; omega) | exact fun h => h | (intro hq; rw [hq]; rfl) | (simp only [Int.toNat_natCast, dflt_i, dflt_b, dflt_l, dflt_p, Int.toNat_zero, gt_iff_lt, ge_iff_le]; omega) | (simp only [ti3, ti4, ti22, ti41]; omega) | (simp [ti3, ti4, ti22, ti41]; omega) | (simp_all; done) | (simp [SV.cellsL, SV.cells]; done) | (simp [SV.cellsL, SV.cells]; omega)) ?_
        refine ops_nil ?_
        -- leaf L0.4t.7t
        refine Exists.intro (i + 1) ⟨?_, ?_, ?_⟩
        · exact goes_to (tm := _) (st := _) [true] rfl rfl ⟨(by first | rfl | exact q_lst (by simp) | exact q_grow (by simp)), True.intro⟩ ⟨(by first | exact sk rfl rfl | exact sk (q_int (by omega)) rfl | exact sk (q_bool (by simp)) rfl | exact sk (q_view rfl rfl rfl (by omega)) rfl | exact sk (q_gview rfl (by simp)) rfl | exact sk (q_nil rfl) rfl | exact sk (q_row (by simp)) rfl | exact sk_g rfl rfl rfl rfl | exact sk_v rfl rfl rfl rfl rfl | exact sk_n rfl), (by refine sk ?_ rfl; exact q_int (by rw [outN_s, if_pos c7])), (by first | exact sk rfl rfl | exact sk (q_int (by omega)) rfl | exact sk (q_bool (by simp)) rfl | exact sk (q_view rfl rfl rfl (by omega)) rfl | exact sk (q_gview rfl (by simp)) rfl | exact sk (q_nil rfl) rfl | exact sk (q_row (by simp)) rfl | exact sk_g rfl rfl rfl rfl | exact sk_v rfl rfl rfl rfl rfl | exact sk_n rfl), (by first | exact sk rfl rfl | exact sk (q_int (by omega)) rfl | exact sk (q_bool (by simp)) rfl | exact sk (q_view rfl rfl rfl (by omega)) rfl | exact sk (q_gview rfl (by simp)) rfl | exact sk (q_nil rfl) rfl | exact sk (q_row (by simp)) rfl | exact sk_g rfl rfl rfl rfl | exact sk_v rfl rfl rfl rfl rfl | exact sk_n rfl), (by first | exact sk rfl rfl | exact sk (q_int (by omega)) rfl | exact sk (q_bool (by simp)) rfl | exact sk (q_view rfl rfl rfl (by omega)) rfl | exact sk (q_gview rfl (by simp)) rfl | exact sk (q_nil rfl) rfl | exact sk (q_row (by simp)) rfl | exact sk_g rfl rfl rfl rfl | exact sk_v rfl rfl rfl rfl rfl | exact sk_n rfl), (by first | exact sk rfl rfl | exact sk (q_int (by omega)) rfl | exact sk (q_bool (by simp)) rfl | exact sk (q_view rfl rfl rfl (by omega)) rfl | exact sk (q_gview rfl (by simp)) rfl | exact sk (q_nil rfl) rfl | exact sk (q_row (by simp)) rfl | exact sk_g rfl rfl rfl rfl | exact sk_v rfl rfl rfl rfl rfl | exact sk_n rfl), True.intro⟩
        · try dsimp only
          refine ⟨by omega, fun j hj h0 => ?_⟩
          by_cases e : j = i
          · subst e; omega
          · exact hb j (by omega) h0
        · (try dsimp only); omega
      · try simp only [Bool.or_eq_true, Bool.and_eq_true, Bool.not_eq_true', Bool.not_eq_false', Bool.or_eq_false_iff, Bool.and_eq_false_imp, decide_eq_true_eq, decide_eq_false_iff_not, Bool.not_true, Bool.not_false, beq_iff_eq, Bool.not_eq_true, Bool.not_eq_false, Bool.true_eq_false, Bool.false_eq_true, not_or, Decidable.not_not, ne_eq] at c7
        try simp only [Int.toNat_natCast, dflt_i, dflt_b, dflt_l, dflt_p, Int.toNat_zero, gt_iff_lt, ge_iff_le] at c7
        refine aw_skip ?_
        refine aw_seq ?_
        refine aw_reg _ (by kernel_rfl) rfl ?_
        iterate 2 refine st (m := false) tabok rfl rfl rfl (by (repeat' apply And.intro); all_goals first | exact True.intro | rfl | omega | (simp only [inr]; omega) | (simp only [IntKind.bits]; omega) | exact fun h => h | (intro hq; rw [hq]; rfl) | (simp only [Int.toNat_natCast, dflt_i, dflt_b, dflt_l, dflt_p, Int.toNat_zero, gt_iff_lt, ge_iff_le]; omega) | (simp only [ti3, ti4, ti22, ti41]; omega) | (simp [ti3, ti4, ti22, ti41]; omega) | (simp_all; done) | (simp [SV.cellsL, SV.cells]; done) | (simp [SV.cellsL, SV.cells]; omega)) ?_
        refine ops_nil ?_
        refine aw_seq ?_
        refine aw_seq ?_
        refine aw_reg _ (by kernel_rfl) rfl ?_
        iterate 3 refine st (m := false) tabok rfl rfl rfl (by (repeat' apply And.intro); all_goals first | exact True.intro | rfl | omega | (simp only [inr]; omega) | (simp only [IntKind.bits]; omega) | exact fun h => h | (intro hq; rw [hq]; rfl) | (simp only [Int.toNat_natCast, dflt_i, dflt_b, dflt_l, dflt_p, Int.toNat_zero, gt_iff_lt, ge_iff_le]; omega) | (simp only [ti3, ti4, ti22, ti41]; omega) | (simp [ti3, ti4, ti22, ti41]; omega) | (simp_all; done) | (simp [SV.cellsL, SV.cells]; done) | (simp [SV.cellsL, SV.cells]; omega)) ?_
        refine ops_nil ?_
        refine aw_block ?_
        refine aw_loop (X := (Nat)) (fun (j : Nat) => outT (look [(0, .ptr 0 0 0), (4, .int .i64 (outN (m.drop (k + 1)) o d i)), (5, .row TMix (m.drop (k + 1))), (6, .int .i64 i), (8, .int .i64 (o.getD i 0 - d i)), (9, .int .i64 (capN (m.drop (k + 1)) i mo j)), (10, .int .i64 (chN (m.drop (k + 1)) i (o.getD i 0 - d i) j)), (28, .row TI64 o), (29, .int .i64 o.length), (30, .int .i64 i), (45, .row TMix (m.drop (k + 1))), (46, .int .i64 (m.drop (k + 1)).length), (47, .int .i64 j)])) (fun (j : Nat) => outS [schO m o ov mo k p d c nb b le]) (fun (j : Nat) => (j ≤ (m.drop (k + 1)).length)) (fun (j : Nat) => (m.drop (k + 1)).length - j) (0) ?_ ?_ ?_
        -- leaf L1:entry.4t.7f
        · exact goes_to (tm := _) (st := _) [true] rfl rfl ⟨(by first | rfl | exact q_lst (by simp) | exact q_grow (by simp)), True.intro⟩ ⟨(by first | exact sk rfl rfl | exact sk (q_int (by omega)) rfl | exact sk (q_bool (by simp)) rfl | exact sk (q_view rfl rfl rfl (by omega)) rfl | exact sk (q_gview rfl (by simp)) rfl | exact sk (q_nil rfl) rfl | exact sk (q_row (by simp)) rfl | exact sk_g rfl rfl rfl rfl | exact sk_v rfl rfl rfl rfl rfl | exact sk_n rfl), (by first | exact sk rfl rfl | exact sk (q_int (by omega)) rfl | exact sk (q_bool (by simp)) rfl | exact sk (q_view rfl rfl rfl (by omega)) rfl | exact sk (q_gview rfl (by simp)) rfl | exact sk (q_nil rfl) rfl | exact sk (q_row (by simp)) rfl | exact sk_g rfl rfl rfl rfl | exact sk_v rfl rfl rfl rfl rfl | exact sk_n rfl), (by first | exact sk rfl rfl | exact sk (q_int (by omega)) rfl | exact sk (q_bool (by simp)) rfl | exact sk (q_view rfl rfl rfl (by omega)) rfl | exact sk (q_gview rfl (by simp)) rfl | exact sk (q_nil rfl) rfl | exact sk (q_row (by simp)) rfl | exact sk_g rfl rfl rfl rfl | exact sk_v rfl rfl rfl rfl rfl | exact sk_n rfl), (by first | exact sk rfl rfl | exact sk (q_int (by omega)) rfl | exact sk (q_bool (by simp)) rfl | exact sk (q_view rfl rfl rfl (by omega)) rfl | exact sk (q_gview rfl (by simp)) rfl | exact sk (q_nil rfl) rfl | exact sk (q_row (by simp)) rfl | exact sk_g rfl rfl rfl rfl | exact sk_v rfl rfl rfl rfl rfl | exact sk_n rfl), (by first | exact sk rfl rfl | exact sk (q_int (by omega)) rfl | exact sk (q_bool (by simp)) rfl | exact sk (q_view rfl rfl rfl (by omega)) rfl | exact sk (q_gview rfl (by simp)) rfl | exact sk (q_nil rfl) rfl | exact sk (q_row (by simp)) rfl | exact sk_g rfl rfl rfl rfl | exact sk_v rfl rfl rfl rfl rfl | exact sk_n rfl), (by first | exact sk rfl rfl | exact sk (q_int (by omega)) rfl | exact sk (q_bool (by simp)) rfl | exact sk (q_view rfl rfl rfl (by omega)) rfl | exact sk (q_gview rfl (by simp)) rfl | exact sk (q_nil rfl) rfl | exact sk (q_row (by simp)) rfl | exact sk_g rfl rfl rfl rfl | exact sk_v rfl rfl rfl rfl rfl | exact sk_n rfl), (by first | exact sk rfl rfl | exact sk (q_int (by omega)) rfl | exact sk (q_bool (by simp)) rfl | exact sk (q_view rfl rfl rfl (by omega)) rfl | exact sk (q_gview rfl (by simp)) rfl | exact sk (q_nil rfl) rfl | exact sk (q_row (by simp)) rfl | exact sk_g rfl rfl rfl rfl | exact sk_v rfl rfl rfl rfl rfl | exact sk_n rfl), (by first | exact sk rfl rfl | exact sk (q_int (by omega)) rfl | exact sk (q_bool (by simp)) rfl | exact sk (q_view rfl rfl rfl (by omega)) rfl | exact sk (q_gview rfl (by simp)) rfl | exact sk (q_nil rfl) rfl | exact sk (q_row (by simp)) rfl | exact sk_g rfl rfl rfl rfl | exact sk_v rfl rfl rfl rfl rfl | exact sk_n rfl), (by first | exact sk rfl rfl | exact sk (q_int (by omega)) rfl | exact sk (q_bool (by simp)) rfl | exact sk (q_view rfl rfl rfl (by omega)) rfl | exact sk (q_gview rfl (by simp)) rfl | exact sk (q_nil rfl) rfl | exact sk (q_row (by simp)) rfl | exact sk_g rfl rfl rfl rfl | exact sk_v rfl rfl rfl rfl rfl | exact sk_n rfl), (by first | exact sk rfl rfl | exact sk (q_int (by omega)) rfl | exact sk (q_bool (by simp)) rfl | exact sk (q_view rfl rfl rfl (by omega)) rfl | exact sk (q_gview rfl (by simp)) rfl | exact sk (q_nil rfl) rfl | exact sk (q_row (by simp)) rfl | exact sk_g rfl rfl rfl rfl | exact sk_v rfl rfl rfl rfl rfl | exact sk_n rfl), (by first | exact sk rfl rfl | exact sk (q_int (by omega)) rfl | exact sk (q_bool (by simp)) rfl | exact sk (q_view rfl rfl rfl (by omega)) rfl | exact sk (q_gview rfl (by simp)) rfl | exact sk (q_nil rfl) rfl | exact sk (q_row (by simp)) rfl | exact sk_g rfl rfl rfl rfl | exact sk_v rfl rfl rfl rfl rfl | exact sk_n rfl), (by first | exact sk rfl rfl | exact sk (q_int (by omega)) rfl | exact sk (q_bool (by simp)) rfl | exact sk (q_view rfl rfl rfl (by omega)) rfl | exact sk (q_gview rfl (by simp)) rfl | exact sk (q_nil rfl) rfl | exact sk (q_row (by simp)) rfl | exact sk_g rfl rfl rfl rfl | exact sk_v rfl rfl rfl rfl rfl | exact sk_n rfl), (by first | exact sk rfl rfl | exact sk (q_int (by omega)) rfl | exact sk (q_bool (by simp)) rfl | exact sk (q_view rfl rfl rfl (by omega)) rfl | exact sk (q_gview rfl (by simp)) rfl | exact sk (q_nil rfl) rfl | exact sk (q_row (by simp)) rfl | exact sk_g rfl rfl rfl rfl | exact sk_v rfl rfl rfl rfl rfl | exact sk_n rfl), True.intro⟩
        · first | omega | assumption | simp
        · skip
          rintro j hj
          change awpB _ _ _ _ _ (outT (look [(0, .ptr 0 0 0), (4, .int .i64 (outN (m.drop (k + 1)) o d i)), (5, .row TMix (m.drop (k + 1))), (6, .int .i64 i), (8, .int .i64 (o.getD i 0 - d i)), (9, .int .i64 (capN (m.drop (k + 1)) i mo j)), (10, .int .i64 (chN (m.drop (k + 1)) i (o.getD i 0 - d i) j)), (28, .row TI64 o), (29, .int .i64 o.length), (30, .int .i64 i), (45, .row TMix (m.drop (k + 1))), (46, .int .i64 (m.drop (k + 1)).length), (47, .int .i64 j)])) (outS [schO m o ov mo k p d c nb b le])
          have h8 := hR1 j
          have h9 := hR2 i j
          have h10 := hR3 j
          have h11 := capN_rng (R := m.drop (k + 1)) (i := i) (mo := mo) (hR2 i) h3 j
          have h12 := mul_rng h9.1 h9.2 h3.1 h3.2
          simp only [nOf, lOf] at h9 h10 h12
          refine aw_seq ?_
          refine aw_reg _ (by kernel_rfl) rfl ?_
          refine st (m := false) tabok rfl rfl rfl (by (repeat' apply And.intro); all_goals first | exact True.intro | rfl | omega | (simp only [inr]; omega) | (simp only [IntKind.bits]; omega) | exact fun h => h | (intro hq; rw [hq]; rfl) | (simp only [Int.toNat_natCast, dflt_i, dflt_b, dflt_l, dflt_p, Int.toNat_zero, gt_iff_lt, ge_iff_le]; omega) | (simp only [ti3, ti4, ti22, ti41]; omega) | (simp [ti3, ti4, ti22, ti41]; omega) | (simp_all; done) | (simp [SV.cellsL, SV.cells]; done) | (simp [SV.cellsL, SV.cells]; omega)) ?_
          refine ops_nil ?_
          refine aw_seq ?_
          refine aw_if rfl (fun c10 => ?_) (fun c10 => ?_)
          · try simp only [Bool.or_eq_true, Bool.and_eq_true, Bool.not_eq_true', Bool.not_eq_false', Bool.or_eq_false_iff, Bool.and_eq_false_imp, decide_eq_true_eq, decide_eq_false_iff_not, Bool.not_true, Bool.not_false, beq_iff_eq, Bool.not_eq_true, Bool.not_eq_false, Bool.true_eq_false, Bool.false_eq_true, not_or, Decidable.not_not, ne_eq] at c10
            try simp only [Int.toNat_natCast, dflt_i, dflt_b, dflt_l, dflt_p, Int.toNat_zero, gt_iff_lt, ge_iff_le] at c10
            refine aw_skip ?_
            refine aw_seq ?_
            refine aw_block ?_
            refine aw_seq ?_
            refine aw_reg _ (by kernel_rfl) rfl ?_
            iterate 3 refine st (m := false) tabok rfl rfl rfl (by (repeat' apply And.intro); all_goals first | exact True.intro | rfl | omega | (simp only [inr]; omega) | (simp only [IntKind.bits]; omega) | exact fun h => h | (intro hq; rw [hq]; rfl) | (simp only [Int.toNat_natCast, dflt_i, dflt_b, dflt_l, dflt_p, Int.toNat_zero, gt_iff_lt, ge_iff_le]; omega) | (simp only [ti3, ti4, ti22, ti41]; omega) | (simp [ti3, ti4, ti22, ti41]; omega) | (simp_all; done) | (simp [SV.cellsL, SV.cells]; done) | (simp [SV.cellsL, SV.cells]; omega)) ?_
            refine st0 (m := false) tabok rfl rfl rfl (by (repeat' apply And.intro); all_goals first | exact True.intro | rfl | omega | (simp only [inr]; omega) | (simp only [IntKind.bits]; omega) | exact fun h => h | (intro hq; rw [hq]; rfl) | (simp only [Int.toNat_natCast, dflt_i, dflt_b, dflt_l, dflt_p, Int.toNat_zero, gt_iff_lt, ge_iff_le]; omega) | (simp only [ti3, ti4, ti22, ti41]; omega) | (simp [ti3, ti4, ti22, ti41]; omega) | (simp_all; done) | (simp [SV.cellsL, SV.cells]; done) | (simp [SV.cellsL, SV.cells]; omega)) ?_
            refine ops_nil ?_
            refine aw_seq ?_
            refine aw_reg _ (by kernel_rfl) rfl ?_
            iterate 6 refine st (m := false) tabok rfl rfl rfl (by (repeat' apply And.intro); all_goals first | exact True.intro | rfl | omega | (simp only [inr]; omega) | (simp only [IntKind.bits]; omega) | exact fun h => h | (intro hq; rw [hq]; rfl) | (simp only [Int.toNat_natCast, dflt_i, dflt_b, dflt_l, dflt_p, Int.toNat_zero, gt_iff_lt, ge_iff_le]; omega) | (simp only [ti3, ti4, ti22, ti41]; omega) | (simp [ti3, ti4, ti22, ti41]; omega) | (simp_all; done) | (simp [SV.cellsL, SV.cells]; done) | (simp [SV.cellsL, SV.cells]; omega)) ?_
            refine ops_nil ?_
            refine aw_seq ?_
            refine aw_reg _ (by kernel_rfl) rfl ?_
            iterate 2 refine st (m := false) tabok rfl rfl rfl (by (repeat' apply And.intro); all_goals first | exact True.intro | rfl | omega | (simp only [inr]; omega) | (simp only [IntKind.bits]; omega) | exact fun h => h | (intro hq; rw [hq]; rfl) | (simp only [Int.toNat_natCast, dflt_i, dflt_b, dflt_l, dflt_p, Int.toNat_zero, gt_iff_lt, ge_iff_le]; omega) | (simp only [ti3, ti4, ti22, ti41]; omega) | (simp [ti3, ti4, ti22, ti41]; omega) | (simp_all; done) | (simp [SV.cellsL, SV.cells]; done) | (simp [SV.cellsL, SV.cells]; omega)) ?_
            refine ops_nil ?_
            refine aw_if rfl (fun c13 => ?_) (fun c13 => ?_)
            · try simp only [Bool.or_eq_true, Bool.and_eq_true, Bool.not_eq_true', Bool.not_eq_false', Bool.or_eq_false_iff, Bool.and_eq_false_imp, decide_eq_true_eq, decide_eq_false_iff_not, Bool.not_true, Bool.not_false, beq_iff_eq, Bool.not_eq_true, Bool.not_eq_false, Bool.true_eq_false, Bool.false_eq_true, not_or, Decidable.not_not, ne_eq] at c13
              try simp only [Int.toNat_natCast, dflt_i, dflt_b, dflt_l, dflt_p, Int.toNat_zero, gt_iff_lt, ge_iff_le] at c13
              have h13 := mul_rng (a := o.getD i 0 - d i) (b := ((m.drop (k + 1)).getD j ([], 0)).2) (A := 1000) (B := 1048576) (by omega) (by omega) (by omega) (by omega)
              have h14 := quo_rng (a := (o.getD i 0 - d i) * ((m.drop (k + 1)).getD j ([], 0)).2 + ((m.drop (k + 1)).getD j ([], 0)).1.getD i 0 - 1) (b := ((m.drop (k + 1)).getD j ([], 0)).1.getD i 0) (by omega) (by omega)
              refine aw_seq ?_
              refine aw_reg _ (by kernel_rfl) rfl ?_
              iterate 9 refine st (m := false) tabok rfl rfl rfl (by (repeat' apply And.intro); all_goals first | exact True.intro | rfl | omega | (simp only [inr]; omega) | (simp only [IntKind.bits]; omega) | exact fun h => h | (intro hq; rw [hq]; rfl) | (simp only [Int.toNat_natCast, dflt_i, dflt_b, dflt_l, dflt_p, Int.toNat_zero, gt_iff_lt, ge_iff_le]; omega) | (simp only [ti3, ti4, ti22, ti41]; omega) | (simp [ti3, ti4, ti22, ti41]; omega) | (simp_all; done) | (simp [SV.cellsL, SV.cells]; done) | (simp [SV.cellsL, SV.cells]; omega)) ?_
              refine ops_nil ?_
              refine aw_seq ?_
              refine aw_reg _ (by kernel_rfl) rfl ?_
              iterate 10 refine st (m := false) tabok rfl rfl rfl (by (repeat' apply And.intro); all_goals first | exact True.intro | rfl | omega | (simp only [inr]; omega) | (simp only [IntKind.bits]; omega) | exact fun h => h | (intro hq; rw [hq]; rfl) | (simp only [Int.toNat_natCast, dflt_i, dflt_b, dflt_l, dflt_p, Int.toNat_zero, gt_iff_lt, ge_iff_le]; omega) | (simp only [ti3, ti4, ti22, ti41]; omega) | (simp [ti3, ti4, ti22, ti41]; omega) | (simp_all; done) | (simp [SV.cellsL, SV.cells]; done) | (simp [SV.cellsL, SV.cells]; omega)) ?_
              refine ops_nil ?_
              refine aw_seq ?_
              refine aw_reg _ (by kernel_rfl) rfl ?_
              iterate 3 refine st (m := false) tabok rfl rfl rfl (by (repeat' apply And.intro); all_goals first | exact True.intro | rfl | omega | (simp only [inr]; omega) | (simp only [IntKind.bits]; omega) | exact fun h => h | (intro hq; rw [hq]; rfl) | (simp only [Int.toNat_natCast, dflt_i, dflt_b, dflt_l, dflt_p, Int.toNat_zero, gt_iff_lt, ge_iff_le]; omega) | (simp only [ti3, ti4, ti22, ti41]; omega) | (simp [ti3, ti4, ti22, ti41]; omega) | (simp_all; done) | (simp [SV.cellsL, SV.cells]; done) | (simp [SV.cellsL, SV.cells]; omega)) ?_
              iterate 3 refine stg (m := false) tabok rfl rfl rfl rfl rfl (by intro hg; have hg0 := hg; (try simp only [Bool.or_eq_true, Bool.and_eq_true, Bool.not_eq_true', Bool.not_eq_false', Bool.or_eq_false_iff, Bool.and_eq_false_imp, decide_eq_true_eq, decide_eq_false_iff_not, Bool.not_true, Bool.not_false, beq_iff_eq, Bool.not_eq_true, Bool.not_eq_false, Bool.true_eq_false, Bool.false_eq_true, not_or, Decidable.not_not, ne_eq] at hg); (try simp only [Int.toNat_natCast, dflt_i, dflt_b, dflt_l, dflt_p, Int.toNat_zero, gt_iff_lt, ge_iff_le] at hg); (repeat' apply And.intro); all_goals first | exact hg0 | exact True.intro | rfl | omega | (simp only [inr]; omega) | (simp only [IntKind.bits]; omega) | (simp only [Bool.or_eq_true, Bool.and_eq_true, Bool.not_eq_true', Bool.not_eq_false', Bool.or_eq_false_iff, Bool.and_eq_false_imp, decide_eq_true_eq, decide_eq_false_iff_not, Bool.not_true, Bool.not_false, beq_iff_eq, Bool.not_eq_true, Bool.not_eq_false, Bool.true_eq_false, Bool.false_eq_true, not_or, Decidable.not_not, ne_eq]; omega) | (simp only [inr, Int.toNat_natCast, dflt_i, dflt_b, dflt_l, dflt_p, Int.toNat_zero, gt_iff_lt, ge_iff_le]; omega) | (simp only [Int.toNat_natCast, dflt_i, dflt_b, dflt_l, dflt_p, Int.toNat_zero, gt_iff_lt, ge_iff_le]; omega) | (simp only [Bool.or_eq_true, Bool.and_eq_true, Bool.not_eq_true', Bool.not_eq_false', Bool.or_eq_false_iff, Bool.and_eq_false_imp, decide_eq_true_eq, decide_eq_false_iff_not, Bool.not_true, Bool.not_false, beq_iff_eq, Bool.not_eq_true, Bool.not_eq_false, Bool.true_eq_false, Bool.false_eq_true, not_or, Decidable.not_not, ne_eq] at hg0 ⊢; simp_all; done) | (simp_all; done) | (simp_all; omega)) ?_
              refine st (m := false) tabok rfl rfl rfl (by (repeat' apply And.intro); all_goals first | exact True.intro | rfl | omega | (simp only [inr]; omega) | (simp only [IntKind.bits]; omega) | exact fun h => h | (intro hq; rw [hq]; rfl) | (simp only [Int.toNat_natCast, dflt_i, dflt_b, dflt_l, dflt_p, Int.toNat_zero, gt_iff_lt, ge_iff_le]; omega) | (simp only [ti3, ti4, ti22, ti41]; omega) | (simp [ti3, ti4, ti22, ti41]; omega) | (simp_all; done) | (simp [SV.cellsL, SV.cells]; done) | (simp [SV.cellsL, SV.cells]; omega)) ?_
              refine ops_nil ?_
              refine aw_if rfl (fun c16 => ?_) (fun c16 => ?_)
              · try simp only [Bool.or_eq_true, Bool.and_eq_true, Bool.not_eq_true', Bool.not_eq_false', Bool.or_eq_false_iff, Bool.and_eq_false_imp, decide_eq_true_eq, decide_eq_false_iff_not, Bool.not_true, Bool.not_false, beq_iff_eq, Bool.not_eq_true, Bool.not_eq_false, Bool.true_eq_false, Bool.false_eq_true, not_or, Decidable.not_not, ne_eq] at c16
                try simp only [Int.toNat_natCast, dflt_i, dflt_b, dflt_l, dflt_p, Int.toNat_zero, gt_iff_lt, ge_iff_le] at c16
                refine aw_reg _ (by kernel_rfl) rfl ?_
                iterate 2 refine st (m := false) tabok rfl rfl rfl (by (repeat' apply And.intro); all_goals first | exact True.intro | rfl | omega | (simp only [inr]; omega) | (simp only [IntKind.bits]; omega) | exact fun h => h | (intro hq; rw [hq]; rfl) | (simp only [Int.toNat_natCast, dflt_i, dflt_b, dflt_l, dflt_p, Int.toNat_zero, gt_iff_lt, ge_iff_le]; omega) | (simp only [ti3, ti4, ti22, ti41]; omega) | (simp [ti3, ti4, ti22, ti41]; omega) | (simp_all; done) | (simp [SV.cellsL, SV.cells]; done) | (simp [SV.cellsL, SV.cells]; omega)) ?_
                refine ops_nil ?_
                refine aw_reg _ (by kernel_rfl) rfl ?_
                iterate 2 refine st (m := false) tabok rfl rfl rfl (by (repeat' apply And.intro); all_goals first | exact True.intro | rfl | omega | (simp only [inr]; omega) | (simp only [IntKind.bits]; omega) | exact fun h => h | (intro hq; rw [hq]; rfl) | (simp only [Int.toNat_natCast, dflt_i, dflt_b, dflt_l, dflt_p, Int.toNat_zero, gt_iff_lt, ge_iff_le]; omega) | (simp only [ti3, ti4, ti22, ti41]; omega) | (simp [ti3, ti4, ti22, ti41]; omega) | (simp_all; done) | (simp [SV.cellsL, SV.cells]; done) | (simp [SV.cellsL, SV.cells]; omega)) ?_
                refine ops_nil ?_
                -- leaf L1.10t.13t.16t
                refine Exists.intro (j + 1) ⟨?_, ?_, ?_⟩
                · exact goes_to (tm := _) (st := _) [true] rfl rfl ⟨(by first | rfl | exact q_lst (by simp) | exact q_grow (by simp)), True.intro⟩ ⟨(by first | exact sk rfl rfl | exact sk (q_int (by omega)) rfl | exact sk (q_bool (by simp)) rfl | exact sk (q_view rfl rfl rfl (by omega)) rfl | exact sk (q_gview rfl (by simp)) rfl | exact sk (q_nil rfl) rfl | exact sk (q_row (by simp)) rfl | exact sk_g rfl rfl rfl rfl | exact sk_v rfl rfl rfl rfl rfl | exact sk_n rfl), (by first | exact sk rfl rfl | exact sk (q_int (by omega)) rfl | exact sk (q_bool (by simp)) rfl | exact sk (q_view rfl rfl rfl (by omega)) rfl | exact sk (q_gview rfl (by simp)) rfl | exact sk (q_nil rfl) rfl | exact sk (q_row (by simp)) rfl | exact sk_g rfl rfl rfl rfl | exact sk_v rfl rfl rfl rfl rfl | exact sk_n rfl), (by first | exact sk rfl rfl | exact sk (q_int (by omega)) rfl | exact sk (q_bool (by simp)) rfl | exact sk (q_view rfl rfl rfl (by omega)) rfl | exact sk (q_gview rfl (by simp)) rfl | exact sk (q_nil rfl) rfl | exact sk (q_row (by simp)) rfl | exact sk_g rfl rfl rfl rfl | exact sk_v rfl rfl rfl rfl rfl | exact sk_n rfl), (by first | exact sk rfl rfl | exact sk (q_int (by omega)) rfl | exact sk (q_bool (by simp)) rfl | exact sk (q_view rfl rfl rfl (by omega)) rfl | exact sk (q_gview rfl (by simp)) rfl | exact sk (q_nil rfl) rfl | exact sk (q_row (by simp)) rfl | exact sk_g rfl rfl rfl rfl | exact sk_v rfl rfl rfl rfl rfl | exact sk_n rfl), (by first | exact sk rfl rfl | exact sk (q_int (by omega)) rfl | exact sk (q_bool (by simp)) rfl | exact sk (q_view rfl rfl rfl (by omega)) rfl | exact sk (q_gview rfl (by simp)) rfl | exact sk (q_nil rfl) rfl | exact sk (q_row (by simp)) rfl | exact sk_g rfl rfl rfl rfl | exact sk_v rfl rfl rfl rfl rfl | exact sk_n rfl), (by refine sk ?_ rfl; exact q_int (by rw [capN_s, if_pos (by exact c13)]; rfl)), (by refine sk ?_ rfl; exact q_int (by rw [chN_s, if_pos ⟨by exact c13, by exact c16⟩]; rfl)), (by first | exact sk rfl rfl | exact sk (q_int (by omega)) rfl | exact sk (q_bool (by simp)) rfl | exact sk (q_view rfl rfl rfl (by omega)) rfl | exact sk (q_gview rfl (by simp)) rfl | exact sk (q_nil rfl) rfl | exact sk (q_row (by simp)) rfl | exact sk_g rfl rfl rfl rfl | exact sk_v rfl rfl rfl rfl rfl | exact sk_n rfl), (by first | exact sk rfl rfl | exact sk (q_int (by omega)) rfl | exact sk (q_bool (by simp)) rfl | exact sk (q_view rfl rfl rfl (by omega)) rfl | exact sk (q_gview rfl (by simp)) rfl | exact sk (q_nil rfl) rfl | exact sk (q_row (by simp)) rfl | exact sk_g rfl rfl rfl rfl | exact sk_v rfl rfl rfl rfl rfl | exact sk_n rfl), (by first | exact sk rfl rfl | exact sk (q_int (by omega)) rfl | exact sk (q_bool (by simp)) rfl | exact sk (q_view rfl rfl rfl (by omega)) rfl | exact sk (q_gview rfl (by simp)) rfl | exact sk (q_nil rfl) rfl | exact sk (q_row (by simp)) rfl | exact sk_g rfl rfl rfl rfl | exact sk_v rfl rfl rfl rfl rfl | exact sk_n rfl), (by first | exact sk rfl rfl | exact sk (q_int (by omega)) rfl | exact sk (q_bool (by simp)) rfl | exact sk (q_view rfl rfl rfl (by omega)) rfl | exact sk (q_gview rfl (by simp)) rfl | exact sk (q_nil rfl) rfl | exact sk (q_row (by simp)) rfl | exact sk_g rfl rfl rfl rfl | exact sk_v rfl rfl rfl rfl rfl | exact sk_n rfl), (by first | exact sk rfl rfl | exact sk (q_int (by omega)) rfl | exact sk (q_bool (by simp)) rfl | exact sk (q_view rfl rfl rfl (by omega)) rfl | exact sk (q_gview rfl (by simp)) rfl | exact sk (q_nil rfl) rfl | exact sk (q_row (by simp)) rfl | exact sk_g rfl rfl rfl rfl | exact sk_v rfl rfl rfl rfl rfl | exact sk_n rfl), (by first | exact sk rfl rfl | exact sk (q_int (by omega)) rfl | exact sk (q_bool (by simp)) rfl | exact sk (q_view rfl rfl rfl (by omega)) rfl | exact sk (q_gview rfl (by simp)) rfl | exact sk (q_nil rfl) rfl | exact sk (q_row (by simp)) rfl | exact sk_g rfl rfl rfl rfl | exact sk_v rfl rfl rfl rfl rfl | exact sk_n rfl), True.intro⟩
                · try dsimp only
                  first | omega | assumption | simp
                · (try dsimp only); omega
              · try simp only [Bool.or_eq_true, Bool.and_eq_true, Bool.not_eq_true', Bool.not_eq_false', Bool.or_eq_false_iff, Bool.and_eq_false_imp, decide_eq_true_eq, decide_eq_false_iff_not, Bool.not_true, Bool.not_false, beq_iff_eq, Bool.not_eq_true, Bool.not_eq_false, Bool.true_eq_false, Bool.false_eq_true, not_or, Decidable.not_not, ne_eq] at c16
                try simp only [Int.toNat_natCast, dflt_i, dflt_b, dflt_l, dflt_p, Int.toNat_zero, gt_iff_lt, ge_iff_le] at c16
                refine aw_skip ?_
                refine aw_reg _ (by kernel_rfl) rfl ?_
                iterate 2 refine st (m := false) tabok rfl rfl rfl (by (repeat' apply And.intro); all_goals first | exact True.intro | rfl | omega | (simp only [inr]; omega) | (simp only [IntKind.bits]; omega) | exact fun h => h | (intro hq; rw [hq]; rfl) | (simp only [Int.toNat_natCast, dflt_i, dflt_b, dflt_l, dflt_p, Int.toNat_zero, gt_iff_lt, ge_iff_le]; omega) | (simp only [ti3, ti4, ti22, ti41]; omega) | (simp [ti3, ti4, ti22, ti41]; omega) | (simp_all; done) | (simp [SV.cellsL, SV.cells]; done) | (simp [SV.cellsL, SV.cells]; omega)) ?_
                refine ops_nil ?_
                -- leaf L1.10t.13t.16f
                refine Exists.intro (j + 1) ⟨?_, ?_, ?_⟩
                · exact goes_to (tm := _) (st := _) [true] rfl rfl ⟨(by first | rfl | exact q_lst (by simp) | exact q_grow (by simp)), True.intro⟩ ⟨(by first | exact sk rfl rfl | exact sk (q_int (by omega)) rfl | exact sk (q_bool (by simp)) rfl | exact sk (q_view rfl rfl rfl (by omega)) rfl | exact sk (q_gview rfl (by simp)) rfl | exact sk (q_nil rfl) rfl | exact sk (q_row (by simp)) rfl | exact sk_g rfl rfl rfl rfl | exact sk_v rfl rfl rfl rfl rfl | exact sk_n rfl), (by first | exact sk rfl rfl | exact sk (q_int (by omega)) rfl | exact sk (q_bool (by simp)) rfl | exact sk (q_view rfl rfl rfl (by omega)) rfl | exact sk (q_gview rfl (by simp)) rfl | exact sk (q_nil rfl) rfl | exact sk (q_row (by simp)) rfl | exact sk_g rfl rfl rfl rfl | exact sk_v rfl rfl rfl rfl rfl | exact sk_n rfl), (by first | exact sk rfl rfl | exact sk (q_int (by omega)) rfl | exact sk (q_bool (by simp)) rfl | exact sk (q_view rfl rfl rfl (by omega)) rfl | exact sk (q_gview rfl (by simp)) rfl | exact sk (q_nil rfl) rfl | exact sk (q_row (by simp)) rfl | exact sk_g rfl rfl rfl rfl | exact sk_v rfl rfl rfl rfl rfl | exact sk_n rfl), (by first | exact sk rfl rfl | exact sk (q_int (by omega)) rfl | exact sk (q_bool (by simp)) rfl | exact sk (q_view rfl rfl rfl (by omega)) rfl | exact sk (q_gview rfl (by simp)) rfl | exact sk (q_nil rfl) rfl | exact sk (q_row (by simp)) rfl | exact sk_g rfl rfl rfl rfl | exact sk_v rfl rfl rfl rfl rfl | exact sk_n rfl), (by first | exact sk rfl rfl | exact sk (q_int (by omega)) rfl | exact sk (q_bool (by simp)) rfl | exact sk (q_view rfl rfl rfl (by omega)) rfl | exact sk (q_gview rfl (by simp)) rfl | exact sk (q_nil rfl) rfl | exact sk (q_row (by simp)) rfl | exact sk_g rfl rfl rfl rfl | exact sk_v rfl rfl rfl rfl rfl | exact sk_n rfl), (by refine sk ?_ rfl; exact q_int (by rw [capN_s, if_pos (by exact c13)]; rfl)), (by refine sk ?_ rfl; exact q_int (by rw [chN_s, if_neg (by rintro ⟨_, h⟩; have h : _ ∨ ((o.getD i 0 - d i) * ((m.drop (k + 1)).getD j ([], 0)).2 + ((m.drop (k + 1)).getD j ([], 0)).1.getD i 0 - 1) / ((m.drop (k + 1)).getD j ([], 0)).1.getD i 0 < _ := h; omega)])), (by first | exact sk rfl rfl | exact sk (q_int (by omega)) rfl | exact sk (q_bool (by simp)) rfl | exact sk (q_view rfl rfl rfl (by omega)) rfl | exact sk (q_gview rfl (by simp)) rfl | exact sk (q_nil rfl) rfl | exact sk (q_row (by simp)) rfl | exact sk_g rfl rfl rfl rfl | exact sk_v rfl rfl rfl rfl rfl | exact sk_n rfl), (by first | exact sk rfl rfl | exact sk (q_int (by omega)) rfl | exact sk (q_bool (by simp)) rfl | exact sk (q_view rfl rfl rfl (by omega)) rfl | exact sk (q_gview rfl (by simp)) rfl | exact sk (q_nil rfl) rfl | exact sk (q_row (by simp)) rfl | exact sk_g rfl rfl rfl rfl | exact sk_v rfl rfl rfl rfl rfl | exact sk_n rfl), (by first | exact sk rfl rfl | exact sk (q_int (by omega)) rfl | exact sk (q_bool (by simp)) rfl | exact sk (q_view rfl rfl rfl (by omega)) rfl | exact sk (q_gview rfl (by simp)) rfl | exact sk (q_nil rfl) rfl | exact sk (q_row (by simp)) rfl | exact sk_g rfl rfl rfl rfl | exact sk_v rfl rfl rfl rfl rfl | exact sk_n rfl), (by first | exact sk rfl rfl | exact sk (q_int (by omega)) rfl | exact sk (q_bool (by simp)) rfl | exact sk (q_view rfl rfl rfl (by omega)) rfl | exact sk (q_gview rfl (by simp)) rfl | exact sk (q_nil rfl) rfl | exact sk (q_row (by simp)) rfl | exact sk_g rfl rfl rfl rfl | exact sk_v rfl rfl rfl rfl rfl | exact sk_n rfl), (by first | exact sk rfl rfl | exact sk (q_int (by omega)) rfl | exact sk (q_bool (by simp)) rfl | exact sk (q_view rfl rfl rfl (by omega)) rfl | exact sk (q_gview rfl (by simp)) rfl | exact sk (q_nil rfl) rfl | exact sk (q_row (by simp)) rfl | exact sk_g rfl rfl rfl rfl | exact sk_v rfl rfl rfl rfl rfl | exact sk_n rfl), (by first | exact sk rfl rfl | exact sk (q_int (by omega)) rfl | exact sk (q_bool (by simp)) rfl | exact sk (q_view rfl rfl rfl (by omega)) rfl | exact sk (q_gview rfl (by simp)) rfl | exact sk (q_nil rfl) rfl | exact sk (q_row (by simp)) rfl | exact sk_g rfl rfl rfl rfl | exact sk_v rfl rfl rfl rfl rfl | exact sk_n rfl), True.intro⟩
                · try dsimp only
                  first | omega | assumption | simp
                · (try dsimp only); omega
            · try simp only [Bool.or_eq_true, Bool.and_eq_true, Bool.not_eq_true', Bool.not_eq_false', Bool.or_eq_false_iff, Bool.and_eq_false_imp, decide_eq_true_eq, decide_eq_false_iff_not, Bool.not_true, Bool.not_false, beq_iff_eq, Bool.not_eq_true, Bool.not_eq_false, Bool.true_eq_false, Bool.false_eq_true, not_or, Decidable.not_not, ne_eq] at c13
              try simp only [Int.toNat_natCast, dflt_i, dflt_b, dflt_l, dflt_p, Int.toNat_zero, gt_iff_lt, ge_iff_le] at c13
              refine aw_skip ?_
              refine aw_reg _ (by kernel_rfl) rfl ?_
              iterate 2 refine st (m := false) tabok rfl rfl rfl (by (repeat' apply And.intro); all_goals first | exact True.intro | rfl | omega | (simp only [inr]; omega) | (simp only [IntKind.bits]; omega) | exact fun h => h | (intro hq; rw [hq]; rfl) | (simp only [Int.toNat_natCast, dflt_i, dflt_b, dflt_l, dflt_p, Int.toNat_zero, gt_iff_lt, ge_iff_le]; omega) | (simp only [ti3, ti4, ti22, ti41]; omega) | (simp [ti3, ti4, ti22, ti41]; omega) | (simp_all; done) | (simp [SV.cellsL, SV.cells]; done) | (simp [SV.cellsL, SV.cells]; omega)) ?_
              refine ops_nil ?_
              -- leaf L1.10t.13f
              refine Exists.intro (j + 1) ⟨?_, ?_, ?_⟩
              · exact goes_to (tm := _) (st := _) [true] rfl rfl ⟨(by first | rfl | exact q_lst (by simp) | exact q_grow (by simp)), True.intro⟩ ⟨(by first | exact sk rfl rfl | exact sk (q_int (by omega)) rfl | exact sk (q_bool (by simp)) rfl | exact sk (q_view rfl rfl rfl (by omega)) rfl | exact sk (q_gview rfl (by simp)) rfl | exact sk (q_nil rfl) rfl | exact sk (q_row (by simp)) rfl | exact sk_g rfl rfl rfl rfl | exact sk_v rfl rfl rfl rfl rfl | exact sk_n rfl), (by first | exact sk rfl rfl | exact sk (q_int (by omega)) rfl | exact sk (q_bool (by simp)) rfl | exact sk (q_view rfl rfl rfl (by omega)) rfl | exact sk (q_gview rfl (by simp)) rfl | exact sk (q_nil rfl) rfl | exact sk (q_row (by simp)) rfl | exact sk_g rfl rfl rfl rfl | exact sk_v rfl rfl rfl rfl rfl | exact sk_n rfl), (by first | exact sk rfl rfl | exact sk (q_int (by omega)) rfl | exact sk (q_bool (by simp)) rfl | exact sk (q_view rfl rfl rfl (by omega)) rfl | exact sk (q_gview rfl (by simp)) rfl | exact sk (q_nil rfl) rfl | exact sk (q_row (by simp)) rfl | exact sk_g rfl rfl rfl rfl | exact sk_v rfl rfl rfl rfl rfl | exact sk_n rfl), (by first | exact sk rfl rfl | exact sk (q_int (by omega)) rfl | exact sk (q_bool (by simp)) rfl | exact sk (q_view rfl rfl rfl (by omega)) rfl | exact sk (q_gview rfl (by simp)) rfl | exact sk (q_nil rfl) rfl | exact sk (q_row (by simp)) rfl | exact sk_g rfl rfl rfl rfl | exact sk_v rfl rfl rfl rfl rfl | exact sk_n rfl), (by first | exact sk rfl rfl | exact sk (q_int (by omega)) rfl | exact sk (q_bool (by simp)) rfl | exact sk (q_view rfl rfl rfl (by omega)) rfl | exact sk (q_gview rfl (by simp)) rfl | exact sk (q_nil rfl) rfl | exact sk (q_row (by simp)) rfl | exact sk_g rfl rfl rfl rfl | exact sk_v rfl rfl rfl rfl rfl | exact sk_n rfl), (by refine sk ?_ rfl; exact q_int (by rw [capN_s, if_neg (by show ¬ 0 < ((m.drop (k + 1)).getD j ([], 0)).1.getD i 0; omega)])), (by refine sk ?_ rfl; exact q_int (by rw [chN_s, if_neg (by rintro ⟨h, _⟩; have h : 0 < ((m.drop (k + 1)).getD j ([], 0)).1.getD i 0 := h; omega)])), (by first | exact sk rfl rfl | exact sk (q_int (by omega)) rfl | exact sk (q_bool (by simp)) rfl | exact sk (q_view rfl rfl rfl (by omega)) rfl | exact sk (q_gview rfl (by simp)) rfl | exact sk (q_nil rfl) rfl | exact sk (q_row (by simp)) rfl | exact sk_g rfl rfl rfl rfl | exact sk_v rfl rfl rfl rfl rfl | exact sk_n rfl), (by first | exact sk rfl rfl | exact sk (q_int (by omega)) rfl | exact sk (q_bool (by simp)) rfl | exact sk (q_view rfl rfl rfl (by omega)) rfl | exact sk (q_gview rfl (by simp)) rfl | exact sk (q_nil rfl) rfl | exact sk (q_row (by simp)) rfl | exact sk_g rfl rfl rfl rfl | exact sk_v rfl rfl rfl rfl rfl | exact sk_n rfl), (by first | exact sk rfl rfl | exact sk (q_int (by omega)) rfl | exact sk (q_bool (by simp)) rfl | exact sk (q_view rfl rfl rfl (by omega)) rfl | exact sk (q_gview rfl (by simp)) rfl | exact sk (q_nil rfl) rfl | exact sk (q_row (by simp)) rfl | exact sk_g rfl rfl rfl rfl | exact sk_v rfl rfl rfl rfl rfl | exact sk_n rfl), (by first | exact sk rfl rfl | exact sk (q_int (by omega)) rfl | exact sk (q_bool (by simp)) rfl | exact sk (q_view rfl rfl rfl (by omega)) rfl | exact sk (q_gview rfl (by simp)) rfl | exact sk (q_nil rfl) rfl | exact sk (q_row (by simp)) rfl | exact sk_g rfl rfl rfl rfl | exact sk_v rfl rfl rfl rfl rfl | exact sk_n rfl), (by first | exact sk rfl rfl | exact sk (q_int (by omega)) rfl | exact sk (q_bool (by simp)) rfl | exact sk (q_view rfl rfl rfl (by omega)) rfl | exact sk (q_gview rfl (by simp)) rfl | exact sk (q_nil rfl) rfl | exact sk (q_row (by simp)) rfl | exact sk_g rfl rfl rfl rfl | exact sk_v rfl rfl rfl rfl rfl | exact sk_n rfl), (by first | exact sk rfl rfl | exact sk (q_int (by omega)) rfl | exact sk (q_bool (by simp)) rfl | exact sk (q_view rfl rfl rfl (by omega)) rfl | exact sk (q_gview rfl (by simp)) rfl | exact sk (q_nil rfl) rfl | exact sk (q_row (by simp)) rfl | exact sk_g rfl rfl rfl rfl | exact sk_v rfl rfl rfl rfl rfl | exact sk_n rfl), True.intro⟩
              · try dsimp only
                first | omega | assumption | simp
              · (try dsimp only); omega
          · try simp only [Bool.or_eq_true, Bool.and_eq_true, Bool.not_eq_true', Bool.not_eq_false', Bool.or_eq_false_iff, Bool.and_eq_false_imp, decide_eq_true_eq, decide_eq_false_iff_not, Bool.not_true, Bool.not_false, beq_iff_eq, Bool.not_eq_true, Bool.not_eq_false, Bool.true_eq_false, Bool.false_eq_true, not_or, Decidable.not_not, ne_eq] at c10
            try simp only [Int.toNat_natCast, dflt_i, dflt_b, dflt_l, dflt_p, Int.toNat_zero, gt_iff_lt, ge_iff_le] at c10
            refine aw_exit ?_
            refine aw_seq ?_
            refine aw_seq ?_
            refine aw_reg _ (by kernel_rfl) rfl ?_
            iterate 3 refine st (m := false) tabok rfl rfl rfl (by (repeat' apply And.intro); all_goals first | exact True.intro | rfl | omega | (simp only [inr]; omega) | (simp only [IntKind.bits]; omega) | exact fun h => h | (intro hq; rw [hq]; rfl) | (simp only [Int.toNat_natCast, dflt_i, dflt_b, dflt_l, dflt_p, Int.toNat_zero, gt_iff_lt, ge_iff_le]; omega) | (simp only [ti3, ti4, ti22, ti41]; omega) | (simp [ti3, ti4, ti22, ti41]; omega) | (simp_all; done) | (simp [SV.cellsL, SV.cells]; done) | (simp [SV.cellsL, SV.cells]; omega)) ?_
            refine ops_nil ?_
            refine aw_if rfl (fun c19 => ?_) (fun c19 => ?_)
            · try simp only [Bool.or_eq_true, Bool.and_eq_true, Bool.not_eq_true', Bool.not_eq_false', Bool.or_eq_false_iff, Bool.and_eq_false_imp, decide_eq_true_eq, decide_eq_false_iff_not, Bool.not_true, Bool.not_false, beq_iff_eq, Bool.not_eq_true, Bool.not_eq_false, Bool.true_eq_false, Bool.false_eq_true, not_or, Decidable.not_not, ne_eq] at c19
              try simp only [Int.toNat_natCast, dflt_i, dflt_b, dflt_l, dflt_p, Int.toNat_zero, gt_iff_lt, ge_iff_le] at c19
              refine aw_seq ?_
              refine aw_reg _ (by kernel_rfl) rfl ?_
              iterate 2 refine st (m := false) tabok rfl rfl rfl (by (repeat' apply And.intro); all_goals first | exact True.intro | rfl | omega | (simp only [inr]; omega) | (simp only [IntKind.bits]; omega) | exact fun h => h | (intro hq; rw [hq]; rfl) | (simp only [Int.toNat_natCast, dflt_i, dflt_b, dflt_l, dflt_p, Int.toNat_zero, gt_iff_lt, ge_iff_le]; omega) | (simp only [ti3, ti4, ti22, ti41]; omega) | (simp [ti3, ti4, ti22, ti41]; omega) | (simp_all; done) | (simp [SV.cellsL, SV.cells]; done) | (simp [SV.cellsL, SV.cells]; omega)) ?_
              refine ops_nil ?_
              refine aw_ret ?_
              -- leaf ret.10f.19t
              have ej : j = (m.drop (k + 1)).length := by omega
              have hab : ableB (m.drop (k + 1)) o mo d = false := by
                rw [Bool.eq_false_iff]
                intro hab
                have := ableB_iff.1 hab i (by omega) (by omega)
                rw [← ej] at this
                omega
              exact ret_s [(2, .int .i64 (if ableB (m.drop (k + 1)) o mo d = true then outN (m.drop (k + 1)) o d o.length else 0)), (3, .bool (ableB (m.drop (k + 1)) o mo d))] (goes_to (tm := _) (st := _) [true] rfl rfl ⟨(by first | rfl | exact q_lst (by simp) | exact q_grow (by simp)), True.intro⟩ ⟨(by refine sk ?_ rfl; exact q_int (by rw [hab]; rfl)), (by refine sk ?_ rfl; exact q_ff hab), True.intro⟩) rfl
            · try simp only [Bool.or_eq_true, Bool.and_eq_true, Bool.not_eq_true', Bool.not_eq_false', Bool.or_eq_false_iff, Bool.and_eq_false_imp, decide_eq_true_eq, decide_eq_false_iff_not, Bool.not_true, Bool.not_false, beq_iff_eq, Bool.not_eq_true, Bool.not_eq_false, Bool.true_eq_false, Bool.false_eq_true, not_or, Decidable.not_not, ne_eq] at c19
              try simp only [Int.toNat_natCast, dflt_i, dflt_b, dflt_l, dflt_p, Int.toNat_zero, gt_iff_lt, ge_iff_le] at c19
              refine aw_skip ?_
              refine aw_reg _ (by kernel_rfl) rfl ?_
              iterate 4 refine st (m := false) tabok rfl rfl rfl (by (repeat' apply And.intro); all_goals first | exact True.intro | rfl | omega | (simp only [inr]; omega) | (simp only [IntKind.bits]; omega) | exact fun h => h | (intro hq; rw [hq]; rfl) | (simp only [Int.toNat_natCast, dflt_i, dflt_b, dflt_l, dflt_p, Int.toNat_zero, gt_iff_lt, ge_iff_le]; omega) | (simp only [ti3, ti4, ti22, ti41]; omega) | (simp [ti3, ti4, ti22, ti41]; omega) | (simp_all; done) | (simp [SV.cellsL, SV.cells]; done) | (simp [SV.cellsL, SV.cells]; omega)) ?_
              refine ops_nil ?_
              refine aw_reg _ (by kernel_rfl) rfl ?_
              iterate 2 refine st (m := false) tabok rfl rfl rfl (by (repeat' apply And.intro); all_goals first | exact True.intro | rfl | omega | (simp only [inr]; omega) | (simp only [IntKind.bits]; omega) | exact fun h => h | (intro hq; rw [hq]; rfl) | (simp only [Int.toNat_natCast, dflt_i, dflt_b, dflt_l, dflt_p, Int.toNat_zero, gt_iff_lt, ge_iff_le]; omega) | (simp only [ti3, ti4, ti22, ti41]; omega) | (simp [ti3, ti4, ti22, ti41]; omega) | (simp_all; done) | (simp [SV.cellsL, SV.cells]; done) | (simp [SV.cellsL, SV.cells]; omega)) ?_
              refine ops_nil ?_
              -- leaf L0.10f.19f
              refine Exists.intro (i + 1) ⟨?_, ?_, ?_⟩
              · exact goes_to (tm := _) (st := _) [true] rfl rfl ⟨(by first | rfl | exact q_lst (by simp) | exact q_grow (by simp)), True.intro⟩ ⟨(by first | exact sk rfl rfl | exact sk (q_int (by omega)) rfl | exact sk (q_bool (by simp)) rfl | exact sk (q_view rfl rfl rfl (by omega)) rfl | exact sk (q_gview rfl (by simp)) rfl | exact sk (q_nil rfl) rfl | exact sk (q_row (by simp)) rfl | exact sk_g rfl rfl rfl rfl | exact sk_v rfl rfl rfl rfl rfl | exact sk_n rfl), (by refine sk ?_ rfl; exact q_int (by rw [outN_s, if_neg (by omega), show j = (m.drop (k + 1)).length by omega])), (by first | exact sk rfl rfl | exact sk (q_int (by omega)) rfl | exact sk (q_bool (by simp)) rfl | exact sk (q_view rfl rfl rfl (by omega)) rfl | exact sk (q_gview rfl (by simp)) rfl | exact sk (q_nil rfl) rfl | exact sk (q_row (by simp)) rfl | exact sk_g rfl rfl rfl rfl | exact sk_v rfl rfl rfl rfl rfl | exact sk_n rfl), (by first | exact sk rfl rfl | exact sk (q_int (by omega)) rfl | exact sk (q_bool (by simp)) rfl | exact sk (q_view rfl rfl rfl (by omega)) rfl | exact sk (q_gview rfl (by simp)) rfl | exact sk (q_nil rfl) rfl | exact sk (q_row (by simp)) rfl | exact sk_g rfl rfl rfl rfl | exact sk_v rfl rfl rfl rfl rfl | exact sk_n rfl), (by first | exact sk rfl rfl | exact sk (q_int (by omega)) rfl | exact sk (q_bool (by simp)) rfl | exact sk (q_view rfl rfl rfl (by omega)) rfl | exact sk (q_gview rfl (by simp)) rfl | exact sk (q_nil rfl) rfl | exact sk (q_row (by simp)) rfl | exact sk_g rfl rfl rfl rfl | exact sk_v rfl rfl rfl rfl rfl | exact sk_n rfl), (by first | exact sk rfl rfl | exact sk (q_int (by omega)) rfl | exact sk (q_bool (by simp)) rfl | exact sk (q_view rfl rfl rfl (by omega)) rfl | exact sk (q_gview rfl (by simp)) rfl | exact sk (q_nil rfl) rfl | exact sk (q_row (by simp)) rfl | exact sk_g rfl rfl rfl rfl | exact sk_v rfl rfl rfl rfl rfl | exact sk_n rfl), True.intro⟩
              · try dsimp only
                refine ⟨by omega, fun j' hj' h0 => ?_⟩
                have ej : j = (m.drop (k + 1)).length := by omega
                by_cases e : j' = i
                · subst e; rw [← ej]; omega
                · exact hb j' (by omega) h0
              · (try dsimp only); omega
    · try simp only [Bool.or_eq_true, Bool.and_eq_true, Bool.not_eq_true', Bool.not_eq_false', Bool.or_eq_false_iff, Bool.and_eq_false_imp, decide_eq_true_eq, decide_eq_false_iff_not, Bool.not_true, Bool.not_false, beq_iff_eq, Bool.not_eq_true, Bool.not_eq_false, Bool.true_eq_false, Bool.false_eq_true, not_or, Decidable.not_not, ne_eq] at c4
      try simp only [Int.toNat_natCast, dflt_i, dflt_b, dflt_l, dflt_p, Int.toNat_zero, gt_iff_lt, ge_iff_le] at c4
      refine aw_exit ?_
      refine aw_seq ?_
      refine aw_reg _ (by kernel_rfl) rfl ?_
      iterate 3 refine st (m := false) tabok rfl rfl rfl (by (repeat' apply And.intro); all_goals first | exact True.intro | rfl | omega | (simp only [inr]; omega) | (simp only [IntKind.bits]; omega) | exact fun h => h | (intro hq; rw [hq]; rfl) | (simp only [Int.toNat_natCast, dflt_i, dflt_b, dflt_l, dflt_p, Int.toNat_zero, gt_iff_lt, ge_iff_le]; omega) | (simp only [ti3, ti4, ti22, ti41]; omega) | (simp [ti3, ti4, ti22, ti41]; omega) | (simp_all; done) | (simp [SV.cellsL, SV.cells]; done) | (simp [SV.cellsL, SV.cells]; omega)) ?_
      refine ops_nil ?_
      refine aw_ret ?_
      -- leaf ret.4f
      have ei : i = o.length := by omega
      have hab : ableB (m.drop (k + 1)) o mo d = true := ableB_iff.2 fun j hj => hb j (by omega)
      exact ret_s [(2, .int .i64 (if ableB (m.drop (k + 1)) o mo d = true then outN (m.drop (k + 1)) o d o.length else 0)), (3, .bool (ableB (m.drop (k + 1)) o mo d))] (goes_to (tm := _) (st := _) [true] rfl rfl ⟨(by first | rfl | exact q_lst (by simp) | exact q_grow (by simp)), True.intro⟩ ⟨(by refine sk ?_ rfl; exact q_int (by rw [hab, ei]; rfl)), (by refine sk ?_ rfl; exact q_tt hab), True.intro⟩) rfl
def hopB (R : List Mix) (o : List Int) (mo : Int) (d : Nat → Int) (c : Int) (nb : Bool) (le : Int) : Bool := !ableB R o mo d || (!nb && decide (c + outN R o d o.length ≥ le))
theorem outN_rng {R : List Mix} {o : List Int} {d : Nat → Int} (h : ∀ i, 0 ≤ chN R i (o.getD i 0 - d i) R.length ∧ chN R i (o.getD i 0 - d i) R.length ≤ 2000000000) : ∀ i, 0 ≤ outN R o d i ∧ outN R o d i ≤ 2000000000
  | 0 => by simp [outN]
  | i + 1 => by
    have h1 := outN_rng h i
    have h2 := h i
    rw [outN_s]
    split <;> omega
theorem chN_rng {R : List Mix} {i : Nat} {left : Int} (hn : ∀ j, 0 ≤ nOf R j i ∧ nOf R j i ≤ 6) (hl : ∀ j, j < R.length → 1 ≤ lOf R j ∧ lOf R j ≤ 1048576) (h0 : left ≤ 1000) (h1 : 0 < left) : ∀ j, j ≤ R.length → 0 ≤ chN R i left j ∧ chN R i left j ≤ 2000000000
  | 0, _ => by simp [chN]
  | j + 1, hj => by
    have := chN_rng hn hl h0 h1 j (by omega)
    rw [chN_s]
    split
    · rename_i hc
      have h2 := hl j (by omega)
      have h3 := mul_rng (A := 1000) (B := 1048576) (Int.le_of_lt h1) h0 (by omega) h2.2
      have h4 := hn j
      have h5 := quo_rng (a := left * lOf R j + nOf R j i - 1) (by omega) hc.1
      unfold priceN
      omega
    · exact this
theorem outN_rng' (h : Tsk m o ov mo) (hd : ∀ i, 0 ≤ d i ∧ d i ≤ 1440) : ∀ i, 0 ≤ outN (m.drop (k + 1)) o d i ∧ outN (m.drop (k + 1)) o d i ≤ 2000000000
  | 0 => by simp [outN]
  | i + 1 => by
    have h1 := outN_rng' h hd i
    have h2 := h.hob i
    have h3 := hd i
    obtain ⟨q1, q2, q3, q4⟩ := rest_ok h k
    rw [outN_s]
    split
    · exact h1
    · have := chN_rng (R := m.drop (k + 1)) (i := i) (left := o.getD i 0 - d i) (q3 i) q4 (by omega) (by omega) _ (Nat.le_refl _)
      omega
theorem hopeless_ok (h : Tsk m o ov mo) (hk : k < m.length) (hd : ∀ i, 0 ≤ d i ∧ d i ≤ 1440) (hc : 0 ≤ c ∧ c ≤ 1000000000) (hb : nb = false → 0 < b.length) : SC Try.prog 30 [.ptr 0 0 0] [schO m o ov mo k p d c nb b le] (.bool (hopB (m.drop (k + 1)) o mo d c nb le)) [schO m o ov mo k p d c nb b le] := by
  have h1 := outN_rng' (k := k) h hd o.length
  refine fn_s [2] rfl Try.func30 Try.ntmps30 rfl rfl rfl ?_
  refine aw_seq ?_
  refine aw_reg _ (by kernel_rfl) rfl ?_
  refine st (m := false) tabok rfl rfl rfl (by (repeat' apply And.intro); all_goals first | exact True.intro | rfl | omega | (simp only [inr]; omega) | (simp only [IntKind.bits]; omega) | exact fun h => h | (intro hq; rw [hq]; rfl) | (simp only [Int.toNat_natCast, dflt_i, dflt_b, dflt_l, dflt_p, Int.toNat_zero, gt_iff_lt, ge_iff_le]; omega) | (simp only [ti3, ti4, ti22, ti41]; omega) | (simp [ti3, ti4, ti22, ti41]; omega) | (simp_all; done) | (simp [SV.cellsL, SV.cells]; done) | (simp [SV.cellsL, SV.cells]; omega)) ?_
  refine ops_nil ?_
  refine aw_seq ?_
  refine aw_reg _ (by kernel_rfl) rfl ?_
  refine st (m := false) tabok rfl rfl rfl (by (repeat' apply And.intro); all_goals first | exact True.intro | rfl | omega | (simp only [inr]; omega) | (simp only [IntKind.bits]; omega) | exact fun h => h | (intro hq; rw [hq]; rfl) | (simp only [Int.toNat_natCast, dflt_i, dflt_b, dflt_l, dflt_p, Int.toNat_zero, gt_iff_lt, ge_iff_le]; omega) | (simp only [ti3, ti4, ti22, ti41]; omega) | (simp [ti3, ti4, ti22, ti41]; omega) | (simp_all; done) | (simp [SV.cellsL, SV.cells]; done) | (simp [SV.cellsL, SV.cells]; omega)) ?_
  refine sca [0] (bound_ok h hk hd) rfl rfl (by kernel_rfl) rfl (by kernel_rfl) rfl rfl rfl rfl rfl rfl rfl rfl rfl rfl ⟨(by first | rfl | exact q_obj rfl), True.intro⟩ (.cons (by first | exact argw_same | exact argw_nil | exact argw_tt | exact argw_ff | exact argw_eq rfl) .nil) ?_
  iterate 5 refine st (m := false) tabok rfl rfl rfl (by (repeat' apply And.intro); all_goals first | exact True.intro | rfl | omega | (simp only [inr]; omega) | (simp only [IntKind.bits]; omega) | exact fun h => h | (intro hq; rw [hq]; rfl) | (simp only [Int.toNat_natCast, dflt_i, dflt_b, dflt_l, dflt_p, Int.toNat_zero, gt_iff_lt, ge_iff_le]; omega) | (simp only [ti3, ti4, ti22, ti41]; omega) | (simp [ti3, ti4, ti22, ti41]; omega) | (simp_all; done) | (simp [SV.cellsL, SV.cells]; done) | (simp [SV.cellsL, SV.cells]; omega)) ?_
  refine ops_nil ?_
  refine aw_seq ?_
  refine aw_regD true _ (by kernel_rfl) (by kernel_rfl) (by kernel_rfl) rfl ?_
  iterate 3 refine sd (m := false) tabok rfl rfl rfl (by (repeat' apply And.intro); all_goals first | exact True.intro | rfl | omega | (simp only [inr]; omega) | (simp only [IntKind.bits]; omega) | exact fun h => h | (intro hq; rw [hq]; rfl) | (simp only [Int.toNat_natCast, dflt_i, dflt_b, dflt_l, dflt_p, Int.toNat_zero, gt_iff_lt, ge_iff_le]; omega) | (simp only [ti3, ti4, ti22, ti41]; omega) | (simp [ti3, ti4, ti22, ti41]; omega) | (simp_all; done) | (simp [SV.cellsL, SV.cells]; done) | (simp [SV.cellsL, SV.cells]; omega)) ?_
  iterate 18 refine sdg (m := false) tabok rfl rfl rfl rfl rfl (by intro hg; have hg0 := hg; (try simp only [Bool.or_eq_true, Bool.and_eq_true, Bool.not_eq_true', Bool.not_eq_false', Bool.or_eq_false_iff, Bool.and_eq_false_imp, decide_eq_true_eq, decide_eq_false_iff_not, Bool.not_true, Bool.not_false, beq_iff_eq, Bool.not_eq_true, Bool.not_eq_false, Bool.true_eq_false, Bool.false_eq_true, not_or, Decidable.not_not, ne_eq] at hg); (try simp only [Int.toNat_natCast, dflt_i, dflt_b, dflt_l, dflt_p, Int.toNat_zero, gt_iff_lt, ge_iff_le] at hg); (repeat' apply And.intro); all_goals first | exact hg0 | exact True.intro | rfl | omega | (simp only [inr]; omega) | (simp only [IntKind.bits]; omega) | (simp only [Bool.or_eq_true, Bool.and_eq_true, Bool.not_eq_true', Bool.not_eq_false', Bool.or_eq_false_iff, Bool.and_eq_false_imp, decide_eq_true_eq, decide_eq_false_iff_not, Bool.not_true, Bool.not_false, beq_iff_eq, Bool.not_eq_true, Bool.not_eq_false, Bool.true_eq_false, Bool.false_eq_true, not_or, Decidable.not_not, ne_eq]; omega) | (simp only [inr, Int.toNat_natCast, dflt_i, dflt_b, dflt_l, dflt_p, Int.toNat_zero, gt_iff_lt, ge_iff_le]; omega) | (simp only [Int.toNat_natCast, dflt_i, dflt_b, dflt_l, dflt_p, Int.toNat_zero, gt_iff_lt, ge_iff_le]; omega) | (simp only [Bool.or_eq_true, Bool.and_eq_true, Bool.not_eq_true', Bool.not_eq_false', Bool.or_eq_false_iff, Bool.and_eq_false_imp, decide_eq_true_eq, decide_eq_false_iff_not, Bool.not_true, Bool.not_false, beq_iff_eq, Bool.not_eq_true, Bool.not_eq_false, Bool.true_eq_false, Bool.false_eq_true, not_or, Decidable.not_not, ne_eq] at hg0 ⊢; simp_all; done) | (simp_all; done) | (simp_all; omega)) ?_
  iterate 2 refine sd (m := false) tabok rfl rfl rfl (by (repeat' apply And.intro); all_goals first | exact True.intro | rfl | omega | (simp only [inr]; omega) | (simp only [IntKind.bits]; omega) | exact fun h => h | (intro hq; rw [hq]; rfl) | (simp only [Int.toNat_natCast, dflt_i, dflt_b, dflt_l, dflt_p, Int.toNat_zero, gt_iff_lt, ge_iff_le]; omega) | (simp only [ti3, ti4, ti22, ti41]; omega) | (simp [ti3, ti4, ti22, ti41]; omega) | (simp_all; done) | (simp [SV.cellsL, SV.cells]; done) | (simp [SV.cellsL, SV.cells]; omega)) ?_
  refine opd_nil ?_
  refine aw_ret ?_
  -- leaf ret
  exact ret_s [(2, .bool (hopB (m.drop (k + 1)) o mo d c nb le))] (goes_to (tm := _) (st := _) [true] rfl rfl ⟨(by first | rfl | exact q_lst (by simp) | exact q_grow (by simp)), True.intro⟩ ⟨(by refine sk ?_ rfl; exact q_bool (by unfold hopB; cases ableB (m.drop (k + 1)) o mo d <;> simp)), True.intro⟩) rfl
end
end Go.Sim
end
section
set_option autoImplicit false
set_option linter.unusedSimpArgs false
set_option linter.unusedVariables false
namespace Go.Sim
open Go

/-! ### the plain law of the search -/
def sumN (f : Nat → Int) : Nat → Int
  | 0 => 0
  | n + 1 => sumN f n + f n
theorem sumN_congr {f g : Nat → Int} : ∀ {n : Nat}, (∀ j, j < n → f j = g j) → sumN f n = sumN g n
  | 0, _ => rfl
  | n + 1, h => by rw [sumN, sumN, sumN_congr fun j hj => h j (by omega), h n (by omega)]
theorem sumN_le {f g : Nat → Int} : ∀ {n : Nat}, (∀ j, j < n → f j ≤ g j) → sumN f n ≤ sumN g n
  | 0, _ => Int.le_refl _
  | n + 1, h => by
    have h1 := sumN_le (n := n) fun j hj => h j (by omega)
    have h2 := h n (by omega)
    simp only [sumN]
    omega
theorem sumN_add (f : Nat → Int) (a : Nat) : ∀ b, sumN f (a + b) = sumN f a + sumN (fun j => f (a + j)) b
  | 0 => by simp [sumN]
  | b + 1 => by
    have := sumN_add f a b
    show sumN f (a + b) + f (a + b) = _
    rw [this]
    simp only [sumN]
    omega
theorem sumN_upd (f : Nat → Int) (k : Nat) (x : Int) : ∀ n, sumN (fun j => if j = k then f j + x else f j) n = sumN f n + if k < n then x else 0
  | 0 => by simp [sumN]
  | n + 1 => by
    simp only [sumN, sumN_upd f k x n]
    by_cases h : n = k
    · subst h; simp; omega
    · have e : (k < n + 1) = (k < n) := by apply propext; omega
      rw [if_neg h]
      simp only [e]
      omega
theorem sumN_zero {f : Nat → Int} {n : Nat} (h : ∀ j, j < n → f j = 0) : sumN f n = 0 := by
  rw [sumN_congr (g := fun _ => 0) h]
  clear h
  induction n with
  | zero => rfl
  | succ n ih => simp [sumN, ih]
def madeF (m : List Mix) (p : Nat → Int) (i : Nat) : Int := sumN (fun j => p j * nOf m j i) m.length
def costF (m : List Mix) (p : Nat → Int) : Int := sumN (fun j => p j * lOf m j) m.length
def Pl (m : List Mix) (mo : Int) (q : Nat → Int) : Prop := ∀ j, j < m.length → 0 ≤ q j ∧ q j ≤ mo
def Fe (m : List Mix) (o : List Int) (ov : Int) (q : Nat → Int) : Prop := ∀ i, i < o.length → o.getD i 0 ≤ madeF m q i ∧ madeF m q i ≤ o.getD i 0 + ov

/-! ranks -/
def rk (B : Nat) (p : Nat → Int) : Nat → Nat
  | 0 => 0
  | j + 1 => rk B p j * B + (p j).toNat
theorem rk_congr {B : Nat} {p q : Nat → Int} : ∀ {n : Nat}, (∀ j, j < n → p j = q j) → rk B p n = rk B q n
  | 0, _ => rfl
  | n + 1, h => by rw [rk, rk, rk_congr fun j hj => h j (by omega), h n (by omega)]
theorem dig {x a B : Nat} {y : Nat} (ha : a < B) (h : x < y) : x * B + a < y * B := by
  have := Nat.mul_le_mul_right B (show x + 1 ≤ y from h)
  rw [Nat.add_mul] at this
  omega
theorem rk_lt {B : Nat} {p : Nat → Int} : ∀ {n : Nat}, (∀ j, j < n → (p j).toNat < B) → rk B p n < B ^ n
  | 0, _ => by simp [rk]
  | n + 1, h => by
    rw [rk, Nat.pow_succ]
    exact dig (h n (by omega)) (rk_lt fun j hj => h j (by omega))
theorem rk_split (B : Nat) (p : Nat → Int) (n : Nat) : ∀ t, rk B p (n + t) = rk B p n * B ^ t + rk B (fun j => p (n + j)) t
  | 0 => by simp [rk]
  | t + 1 => by
    have := rk_split B p n t
    show rk B p (n + t) * B + (p (n + t)).toNat = _
    rw [this, Nat.pow_succ, Nat.add_mul, Nat.mul_assoc]
    simp only [rk]
    omega
theorem rk_inj {B : Nat} {p q : Nat → Int} : ∀ {n : Nat}, (∀ j, j < n → (p j).toNat < B) → (∀ j, j < n → (q j).toNat < B) → rk B p n = rk B q n → ∀ j, j < n → (p j).toNat = (q j).toNat
  | 0, _, _, _, j, hj => by omega
  | n + 1, hp, hq, h, j, hj => by
    simp only [rk] at h
    have h1 := hp n (by omega)
    have h2 := hq n (by omega)
    have e : rk B p n = rk B q n := by
      rcases Nat.lt_trichotomy (rk B p n) (rk B q n) with h3 | h3 | h3
      · have := dig h1 h3; omega
      · exact h3
      · have := dig h2 h3; omega
    by_cases hn : j = n
    · subst hn; rw [e] at h; omega
    · exact rk_inj (fun j hj => hp j (by omega)) (fun j hj => hq j (by omega)) e j (by omega)
/-- The rank's beginning. -/
theorem rk_mid {B : Nat} {q : Nat → Int} {M n a : Nat} (hn : n ≤ M) (hq : ∀ j, j < M → (q j).toNat < B) : rk B q M < (rk B q n + 1) * B ^ (M - n) ∧ rk B q n * B ^ (M - n) ≤ rk B q M := by
  have h := rk_split B q n (M - n)
  rw [show n + (M - n) = M by omega] at h
  have h2 := rk_lt (B := B) (p := fun j => q (n + j)) (n := M - n) fun j hj => hq _ (by omega)
  rw [h, Nat.add_mul]
  omega
theorem rk_pre {B : Nat} {q : Nat → Int} {M n a : Nat} (hn : n ≤ M) (hq : ∀ j, j < M → (q j).toNat < B) (h1 : a * B ^ (M - n) ≤ rk B q M) (h2 : rk B q M < (a + 1) * B ^ (M - n)) : rk B q n = a := by
  obtain ⟨h3, h4⟩ := rk_mid (a := 0) hn hq
  rcases Nat.lt_trichotomy (rk B q n) a with h | h | h
  · have := Nat.mul_le_mul_right (B ^ (M - n)) (show rk B q n + 1 ≤ a from h)
    omega
  · exact h
  · have := Nat.mul_le_mul_right (B ^ (M - n)) (show a + 1 ≤ rk B q n from h)
    omega

section
variable {m : List Mix} {o : List Int} {ov mo : Int}
theorem pl_dig {q : Nat → Int} (h : Pl m mo q) : ∀ j, j < m.length → (q j).toNat < mo.toNat + 1 := fun j hj => by
  have := h j hj
  omega

structure Opt (m : List Mix) (o : List Int) (ov mo : Int) (t : Nat) (nb : Bool) (b : List Int) (le : Int) : Prop where
  all : ∀ q, Pl m mo q → Fe m o ov q → rk (mo.toNat + 1) q m.length < t → nb = false ∧ (le < costF m q ∨ (le = costF m q ∧ rk (mo.toNat + 1) (fun j => b.getD j 0) m.length ≤ rk (mo.toNat + 1) q m.length))
  is : nb = false → Pl m mo (fun j => b.getD j 0) ∧ Fe m o ov (fun j => b.getD j 0) ∧ costF m (fun j => b.getD j 0) = le ∧ b.length = m.length ∧ rk (mo.toNat + 1) (fun j => b.getD j 0) m.length < t
  no : nb = true → b = [] ∧ le = 0

theorem opt_skip {t t' : Nat} {nb : Bool} {b : List Int} {le : Int} (ht : t ≤ t') (h : Opt m o ov mo t nb b le)
    (hq : ∀ q, Pl m mo q → Fe m o ov q → t ≤ rk (mo.toNat + 1) q m.length → rk (mo.toNat + 1) q m.length < t' → nb = false ∧ le ≤ costF m q) : Opt m o ov mo t' nb b le := by
  refine ⟨fun q h1 h2 h3 => ?_, fun hn => ?_, h.no⟩
  · by_cases hr : rk (mo.toNat + 1) q m.length < t
    · exact h.all q h1 h2 hr
    · obtain ⟨h4, h5⟩ := hq q h1 h2 (by omega) h3
      refine ⟨h4, ?_⟩
      have := (h.is h4).2.2.2.2
      rcases Int.lt_or_le le (costF m q) with h6 | h6
      · exact .inl h6
      · exact .inr ⟨by omega, by omega⟩
  · obtain ⟨h1, h2, h3, h4, h5⟩ := h.is hn
    exact ⟨h1, h2, h3, h4, by omega⟩
theorem range_getD (p : Nat → Int) (n j : Nat) (h : j < n) : ((List.range n).map p).getD j 0 = p j := getD_map_range _ _ h
theorem fe_congr {p q : Nat → Int} (h : ∀ j, j < m.length → p j = q j) (hf : Fe m o ov p) : Fe m o ov q := fun i hi => by
  have : madeF m q i = madeF m p i := sumN_congr fun j hj => by rw [h j hj]
  rw [this]
  exact hf i hi
theorem cost_congr {p q : Nat → Int} (h : ∀ j, j < m.length → p j = q j) : costF m p = costF m q := sumN_congr fun j hj => by rw [h j hj]
theorem opt_keep {p : Nat → Int} {nb : Bool} {b : List Int} {le : Int} (h : Opt m o ov mo (rk (mo.toNat + 1) p m.length) nb b le) (hp : Pl m mo p) (hf : Fe m o ov p) (hc : nb = true ∨ costF m p < le) :
    Opt m o ov mo (rk (mo.toNat + 1) p m.length + 1) false ((List.range m.length).map p) (costF m p) := by
  have hg : ∀ j, j < m.length → p j = ((List.range m.length).map p).getD j 0 := fun j hj => (range_getD p _ j hj).symm
  have hr : rk (mo.toNat + 1) (fun j => ((List.range m.length).map p).getD j 0) m.length = rk (mo.toNat + 1) p m.length := rk_congr fun j hj => (hg j hj).symm
  refine ⟨fun q h1 h2 h3 => ⟨rfl, ?_⟩, fun _ => ⟨fun j hj => by dsimp only; rw [← hg j hj]; exact hp j hj, fe_congr hg hf, (cost_congr hg).symm, by simp, by omega⟩, fun h => by cases h⟩
  rw [hr]
  by_cases hq : rk (mo.toNat + 1) q m.length < rk (mo.toNat + 1) p m.length
  · obtain ⟨h4, h5⟩ := h.all q h1 h2 hq
    rcases hc with hc | hc
    · rw [hc] at h4; cases h4
    · omega
  · have e : rk (mo.toNat + 1) p m.length = rk (mo.toNat + 1) q m.length := by omega
    refine .inr ⟨cost_congr fun j hj => ?_, by omega⟩
    have := rk_inj (pl_dig hp) (pl_dig h1) e j hj
    have := hp j hj
    have := h1 j hj
    omega

theorem madeF_le (h : Tsk m o ov mo) {p q : Nat → Int} (hpq : ∀ j, j < m.length → p j ≤ q j) (i : Nat) : madeF m p i ≤ madeF m q i :=
  sumN_le fun j hj => Int.mul_le_mul_of_nonneg_right (hpq j hj) (h.hn j i).1
theorem exc_no (h : Tsk m o ov mo) {p q : Nat → Int} (hpq : ∀ j, j < m.length → p j ≤ q j) (he : exc o ov (madeF m p) = true) (hf : Fe m o ov q) : False := by
  obtain ⟨i, hi, h1⟩ := exc_iff.1 he
  have h2 := madeF_le h hpq i
  have h3 := hf i hi
  omega

/-! what is still to be had -/
theorem cap_ge {R : List Mix} {i : Nat} {q : Nat → Int} (hn : ∀ j, 0 ≤ nOf R j i) (hq : ∀ j, j < R.length → 0 ≤ q j ∧ q j ≤ mo) : ∀ t, t ≤ R.length → sumN (fun j => q j * nOf R j i) t ≤ capN R i mo t
  | 0, _ => by simp [sumN, capN]
  | t + 1, ht => by
    have h1 := cap_ge hn hq t (by omega)
    have h2 := hq t (by omega)
    rw [capN_s]
    simp only [sumN]
    split
    · have := Int.mul_le_mul_of_nonneg_right h2.2 (hn t)
      rw [Int.mul_comm mo] at this
      omega
    · have : nOf R t i = 0 := by have := hn t; omega
      rw [this]
      omega
theorem ch_min {R : List Mix} {i : Nat} {left : Int} (hn : ∀ j, 0 ≤ nOf R j i ∧ nOf R j i ≤ 6) (hl : ∀ j, j < R.length → 1 ≤ lOf R j ∧ lOf R j ≤ 1048576) (h0 : left ≤ 1000) (h1 : 0 < left) : ∀ t, t ≤ R.length → ∀ j, j < t → 0 < nOf R j i → 1 ≤ chN R i left t ∧ chN R i left t ≤ priceN R i left j
  | 0, _, j, hj, _ => by omega
  | t + 1, ht, j, hj, hnj => by
    have ih := ch_min hn hl h0 h1 t (by omega)
    have hr := chN_rng hn hl h0 h1 t (by omega)
    rw [chN_s]
    have hpr : 0 < nOf R t i → 1 ≤ priceN R i left t := fun hc => by
      have h2 := hl t (by omega)
      have h3 := Int.mul_le_mul (show (1 : Int) ≤ left by omega) h2.1 (by omega) (by omega)
      unfold priceN
      rw [Int.le_ediv_iff_mul_le hc]
      omega
    split
    · rename_i hc
      refine ⟨hpr hc.1, ?_⟩
      by_cases e : j = t
      · subst e; exact Int.le_refl _
      · have := ih j (by omega) hnj
        rcases hc.2 with h | h <;> omega
    · rename_i hc
      by_cases e : j = t
      · subst e
        have : ¬ (chN R i left j = 0 ∨ priceN R i left j < chN R i left j) := fun h => hc ⟨hnj, h⟩
        omega
      · exact ih j (by omega) hnj
theorem ch_le {R : List Mix} {i : Nat} {left : Int} {q : Nat → Int} (hn : ∀ j, 0 ≤ nOf R j i ∧ nOf R j i ≤ 6) (hl : ∀ j, j < R.length → 1 ≤ lOf R j ∧ lOf R j ≤ 1048576) (h0 : left ≤ 1000) (h1 : 0 < left) (hq : ∀ j, j < R.length → 0 ≤ q j)
    (hf : left ≤ sumN (fun j => q j * nOf R j i) R.length) : chN R i left R.length ≤ sumN (fun j => q j * lOf R j) R.length := by
  rcases Int.lt_or_le (sumN (fun j => q j * lOf R j) R.length) (chN R i left R.length) with hlt | hge
  · exfalso
    have hmin := ch_min hn hl h0 h1 R.length (Nat.le_refl _)
    have hX0 : 0 ≤ sumN (fun j => q j * lOf R j) R.length := by
      have := sumN_le (f := fun _ => 0) (g := fun j => q j * lOf R j) (n := R.length) fun j hj => Int.mul_nonneg (hq j hj) (by have := hl j hj; omega)
      rwa [sumN_zero fun _ _ => rfl] at this
    generalize hv : chN R i left R.length = v at hlt hmin
    have key : ∀ t, t ≤ R.length → (v - 1) * sumN (fun j => q j * nOf R j i) t + sumN (fun j => if 0 < nOf R j i then q j else 0) t ≤ left * sumN (fun j => q j * lOf R j) t ∧ sumN (fun j => q j * nOf R j i) t ≤ 6 * sumN (fun j => if 0 < nOf R j i then q j else 0) t := by
      intro t ht
      induction t with
      | zero => simp [sumN]
      | succ t ih =>
        obtain ⟨a1, a2⟩ := ih (by omega)
        simp only [sumN]
        have hqt := hq t (by omega)
        have hnt := hn t
        have hlt' := hl t (by omega)
        rw [Int.mul_add, Int.mul_add, Int.mul_add]
        by_cases hc : 0 < nOf R t i
        · rw [if_pos hc]
          have h2 := (hmin t (by omega) hc).2
          unfold priceN at h2
          have h3 : v * nOf R t i ≤ left * lOf R t + nOf R t i - 1 := (Int.le_ediv_iff_mul_le hc).1 h2
          have h4 : (v - 1) * nOf R t i + 1 ≤ left * lOf R t := by rw [Int.sub_mul]; omega
          have h5 := Int.mul_le_mul_of_nonneg_left h4 hqt
          rw [Int.mul_add, Int.mul_one] at h5
          have e1 : q t * ((v - 1) * nOf R t i) = (v - 1) * (q t * nOf R t i) := by rw [← Int.mul_assoc, Int.mul_comm (q t), Int.mul_assoc]
          have e2 : q t * (left * lOf R t) = left * (q t * lOf R t) := by rw [← Int.mul_assoc, Int.mul_comm (q t), Int.mul_assoc]
          rw [e1, e2] at h5
          have h6 := Int.mul_le_mul_of_nonneg_left hnt.2 hqt
          constructor <;> omega
        · rw [if_neg hc]
          have : nOf R t i = 0 := by omega
          rw [this]
          have h5 := Int.mul_nonneg (show 0 ≤ left by omega) (Int.mul_nonneg hqt (show 0 ≤ lOf R t by omega))
          constructor <;> simp <;> omega
    obtain ⟨a1, a2⟩ := key R.length (Nat.le_refl _)
    have h2 := Int.mul_le_mul_of_nonneg_left hf (show 0 ≤ v - 1 by omega)
    have h3 := Int.mul_le_mul_of_nonneg_left (show sumN (fun j => q j * lOf R j) R.length ≤ v - 1 by omega) (show 0 ≤ left by omega)
    rw [Int.mul_comm left (v - 1)] at h3
    omega
  · exact hge
end
end Go.Sim
end
section
set_option autoImplicit false
set_option linter.unusedSimpArgs false
set_option linter.unusedVariables false
namespace Go.Sim
open Go

section
variable {m : List Mix} {o : List Int} {ov mo : Int}
/-- A plan that goes on as the present plies: what it makes and takes. -/
theorem more_made {p q : Nat → Int} {k : Nat} (hk : k < m.length) (hz : ∀ j, k < j → p j = 0) (he : ∀ j, j < k + 1 → q j = p j) (f : Nat → Int) :
    sumN (fun j => q j * f j) m.length = sumN (fun j => p j * f j) m.length + sumN (fun j => q (k + 1 + j) * f (k + 1 + j)) (m.drop (k + 1)).length := by
  have hlen : m.length = (k + 1) + (m.drop (k + 1)).length := by rw [List.length_drop]; omega
  have q1 := sumN_add (fun j => q j * f j) (k + 1) (m.drop (k + 1)).length
  have q2 := sumN_add (fun j => p j * f j) (k + 1) (m.drop (k + 1)).length
  rw [← hlen] at q1 q2
  have e1 : sumN (fun j => q j * f j) (k + 1) = sumN (fun j => p j * f j) (k + 1) := sumN_congr fun j hj => by rw [he j hj]
  have e2 : sumN (fun j => p (k + 1 + j) * f (k + 1 + j)) (m.drop (k + 1)).length = 0 := sumN_zero fun j hj => by rw [hz _ (by omega)]; simp
  rw [q1, q2, e1]
  omega

theorem hop_no (h : Tsk m o ov mo) {p q : Nat → Int} {k : Nat} {nb : Bool} {le : Int} (hk : k < m.length) (hz : ∀ j, k < j → p j = 0) (hq : Pl m mo q) (hf : Fe m o ov q) (he : ∀ j, j < k + 1 → q j = p j)
    (hh : hopB (m.drop (k + 1)) o mo (madeF m p) (costF m p) nb le = true) : nb = false ∧ le ≤ costF m q := by
  obtain ⟨r1, r2, r3, r4⟩ := rest_ok h k
  have hlen : m.length = (k + 1) + (m.drop (k + 1)).length := by rw [List.length_drop]; omega
  have hqr : ∀ j, j < (m.drop (k + 1)).length → 0 ≤ q (k + 1 + j) ∧ q (k + 1 + j) ≤ mo := fun j hj => hq _ (by omega)
  have hmade : ∀ i, madeF m q i = madeF m p i + sumN (fun j => q (k + 1 + j) * nOf (m.drop (k + 1)) j i) (m.drop (k + 1)).length := fun i => by
    unfold madeF
    rw [more_made hk hz he fun j => nOf m j i]
    congr 1
    exact sumN_congr fun j hj => by rw [nOf_drop]
  have hcost : costF m q = costF m p + sumN (fun j => q (k + 1 + j) * lOf (m.drop (k + 1)) j) (m.drop (k + 1)).length := by
    unfold costF
    rw [more_made hk hz he (lOf m)]
    congr 1
    exact sumN_congr fun j hj => by rw [lOf_drop]
  have hable : ableB (m.drop (k + 1)) o mo (madeF m p) = true := ableB_iff.2 fun i hi hl => by
    have h1 := cap_ge (mo := mo) (q := fun j => q (k + 1 + j)) (i := i) (R := m.drop (k + 1)) (fun j => (r3 i j).1) hqr _ (Nat.le_refl _)
    have h2 := hf i hi
    have h3 := hmade i
    omega
  unfold hopB at hh
  rw [hable] at hh
  simp only [Bool.not_true, Bool.false_or, Bool.and_eq_true, Bool.not_eq_true', decide_eq_true_eq] at hh
  refine ⟨hh.1, ?_⟩
  have key : ∀ t, t ≤ o.length → outN (m.drop (k + 1)) o (madeF m p) t ≤ sumN (fun j => q (k + 1 + j) * lOf (m.drop (k + 1)) j) (m.drop (k + 1)).length := by
    intro t ht
    induction t with
    | zero =>
      have := sumN_le (f := fun _ => 0) (g := fun j => q (k + 1 + j) * lOf (m.drop (k + 1)) j) (n := (m.drop (k + 1)).length) fun j hj => Int.mul_nonneg (hqr j hj).1 (by have := r4 j hj; omega)
      rwa [sumN_zero fun _ _ => rfl] at this
    | succ t ih =>
      have ih := ih (by omega)
      rw [outN_s]
      split
      · exact ih
      · rename_i hc
        have h1 := h.hob t
        have h2 := hf t (by omega)
        have h3 := hmade t
        have hp0 : 0 ≤ madeF m p t := by
          have := sumN_le (f := fun _ => 0) (g := fun j => p j * nOf m j t) (n := m.length) fun j hj => Int.mul_nonneg (by
            by_cases hj2 : j < k + 1
            · rw [← he j hj2]; exact (hq j hj).1
            · rw [hz j (by omega)]; exact Int.le_refl _) (h.hn j t).1
          rwa [sumN_zero fun _ _ => rfl] at this
        have := ch_le (R := m.drop (k + 1)) (i := t) (left := o.getD t 0 - madeF m p t) (q := fun j => q (k + 1 + j)) (r3 t) r4 (by omega) (by omega) (fun j hj => (hqr j hj).1) (by omega)
        omega
  have := key o.length (Nat.le_refl _)
  omega

/-- At the label: the plies of the mixes up to the present one are given, all plans before are done. -/
structure Ag (m : List Mix) (o : List Int) (ov mo : Int) (k : Nat) (p : Nat → Int) (nb : Bool) (b : List Int) (le : Int) : Prop where
  hk : k < m.length
  hp : Pl m mo p
  hz : ∀ j, k < j → p j = 0
  opt : Opt m o ov mo (rk (mo.toNat + 1) p (k + 1) * (mo.toNat + 1) ^ (m.length - (k + 1))) nb b le
/-- Behind: all plans that go on as the present plies are done, too. -/
structure Bk (m : List Mix) (o : List Int) (ov mo : Int) (r0 k : Nat) (p : Nat → Int) (nb : Bool) (b : List Int) (le : Int) : Prop where
  hk : k < m.length
  hp : Pl m mo p
  hz : ∀ j, k < j → p j = 0
  opt : Opt m o ov mo ((rk (mo.toNat + 1) p (k + 1) + 1) * (mo.toNat + 1) ^ (m.length - (k + 1))) nb b le
  hr : r0 < (rk (mo.toNat + 1) p (k + 1) + 1) * (mo.toNat + 1) ^ (m.length - (k + 1))
def rank (m : List Mix) (mo : Int) (k : Nat) (p : Nat → Int) : Nat := rk (mo.toNat + 1) p (k + 1) * (mo.toNat + 1) ^ (m.length - (k + 1))
def msA (m : List Mix) (mo : Int) (k : Nat) (p : Nat → Int) : Nat := ((mo.toNat + 1) ^ m.length - rank m mo k p) * (m.length + 1) + (m.length - k)

theorem pow_pos' (B n : Nat) : 0 < (B + 1) ^ n := Nat.pow_pos (by omega)
theorem rank_bk {k : Nat} {p : Nat → Int} : rank m mo k p < (rk (mo.toNat + 1) p (k + 1) + 1) * (mo.toNat + 1) ^ (m.length - (k + 1)) := by
  have := pow_pos' mo.toNat (m.length - (k + 1))
  unfold rank
  rw [Nat.add_mul]
  omega
theorem plan_eq {p q : Nat → Int} {n : Nat} (hn : n ≤ m.length) (hp : Pl m mo p) (hq : Pl m mo q) (h : rk (mo.toNat + 1) q n = rk (mo.toNat + 1) p n) : ∀ j, j < n → q j = p j := fun j hj => by
  have := rk_inj (fun j hj => pl_dig hq j (by omega)) (fun j hj => pl_dig hp j (by omega)) h j hj
  have := hp j (by omega)
  have := hq j (by omega)
  omega
theorem ag_skip {k : Nat} {p : Nat → Int} {nb : Bool} {b : List Int} {le : Int} (h : Ag m o ov mo k p nb b le) (hq : ∀ q, Pl m mo q → Fe m o ov q → (∀ j, j < k + 1 → q j = p j) → nb = false ∧ le ≤ costF m q) : Bk m o ov mo (rank m mo k p) k p nb b le := by
  refine ⟨h.hk, h.hp, h.hz, opt_skip (Nat.le_of_lt rank_bk) h.opt fun q h1 h2 h3 h4 => ?_, rank_bk⟩
  have hk := h.hk
  exact hq q h1 h2 (plan_eq (by omega) h.hp h1 (rk_pre (by omega) (pl_dig h1) h3 h4))
theorem ag_exc (ht : Tsk m o ov mo) {k : Nat} {p : Nat → Int} {nb : Bool} {b : List Int} {le : Int} (h : Ag m o ov mo k p nb b le) (he : exc o ov (madeF m p) = true) : Bk m o ov mo (rank m mo k p) k p nb b le :=
  ag_skip h fun q h1 h2 h3 => (exc_no ht (fun j hj => by
    by_cases hj2 : j < k + 1
    · rw [h3 j hj2]; exact Int.le_refl _
    · rw [h.hz j (by omega)]; exact (h1 j hj).1) he h2).elim
theorem ag_hop (ht : Tsk m o ov mo) {k : Nat} {p : Nat → Int} {nb : Bool} {b : List Int} {le : Int} (h : Ag m o ov mo k p nb b le) (he : hopB (m.drop (k + 1)) o mo (madeF m p) (costF m p) nb le = true) : Bk m o ov mo (rank m mo k p) k p nb b le :=
  ag_skip h fun q h1 h2 h3 => hop_no ht h.hk h.hz h1 h2 h3 he
theorem ag_keep (ht : Tsk m o ov mo) {k : Nat} {p : Nat → Int} {nb : Bool} {b : List Int} {le : Int} (h : Ag m o ov mo k p nb b le) (hl : m.length ≤ k + 1) (he : exc o ov (madeF m p) = false) (hh : hopB (m.drop (k + 1)) o mo (madeF m p) (costF m p) nb le = false) :
    Bk m o ov mo (rank m mo k p) k p false ((List.range m.length).map p) (costF m p) := by
  have hk := h.hk
  have e : m.length = k + 1 := by omega
  have hdrop : m.drop (k + 1) = [] := List.drop_eq_nil_of_le hl
  rw [hdrop] at hh
  have e0 : (mo.toNat + 1) ^ (m.length - (k + 1)) = 1 := by rw [show m.length - (k + 1) = 0 by omega, Nat.pow_zero]
  have ho := h.opt
  rw [e0, Nat.mul_one, ← e] at ho
  unfold hopB at hh
  simp only [Bool.or_eq_false_iff, Bool.not_eq_false', Bool.and_eq_false_imp, Bool.not_eq_true', decide_eq_false_iff_not] at hh
  have hab := ableB_iff.1 hh.1
  have hleft : ∀ i, i < o.length → o.getD i 0 - madeF m p i ≤ 0 := fun i hi => by
    rcases Int.lt_or_le 0 (o.getD i 0 - madeF m p i) with h1 | h1
    · have := hab i hi h1
      simp only [List.length_nil, capN] at this
      exact this
    · exact h1
  have hout : ∀ t, t ≤ o.length → outN [] o (madeF m p) t = 0 := by
    intro t ht
    induction t with
    | zero => rfl
    | succ t ih => rw [outN_s, if_pos (hleft t (by omega)), ih (by omega)]
  have hf : Fe m o ov p := fun i hi => by
    have h1 := hleft i hi
    have h2 := exc_not.1 he i hi
    omega
  have := opt_keep ho h.hp hf (by
    cases nb with
    | true => exact .inl rfl
    | false =>
      have h3 := hh.2 rfl
      rw [hout o.length (Nat.le_refl _)] at h3
      exact .inr (by omega))
  refine ⟨h.hk, h.hp, h.hz, ?_, rank_bk⟩
  rw [e0, Nat.mul_one, ← e]
  exact this
theorem rk_zero {k : Nat} {p : Nat → Int} (h : p k = 0) (B : Nat) : rk B p (k + 1) = rk B p k * B := by simp [rk, h]
theorem ag_next {k : Nat} {p : Nat → Int} {nb : Bool} {b : List Int} {le : Int} (h : Ag m o ov mo k p nb b le) (hl : k + 1 < m.length) : Ag m o ov mo (k + 1) p nb b le ∧ rank m mo (k + 1) p = rank m mo k p := by
  have e : rk (mo.toNat + 1) p (k + 1 + 1) * (mo.toNat + 1) ^ (m.length - (k + 1 + 1)) = rk (mo.toNat + 1) p (k + 1) * (mo.toNat + 1) ^ (m.length - (k + 1)) := by
    rw [rk_zero (h.hz (k + 1) (by omega)), Nat.mul_assoc, Nat.mul_comm (mo.toNat + 1), ← Nat.pow_succ, show Nat.succ (m.length - (k + 1 + 1)) = m.length - (k + 1) by omega]
  exact ⟨⟨hl, h.hp, fun j hj => h.hz j (by omega), by rw [e]; exact h.opt⟩, e⟩
theorem rk_up {k : Nat} {p p' : Nat → Int} {B : Nat} (h1 : ∀ j, j < k → p' j = p j) (h2 : p' k = p k + 1) (h3 : 0 ≤ p k) : rk B p' (k + 1) = rk B p (k + 1) + 1 := by
  simp only [rk]
  rw [rk_congr h1, h2]
  omega
theorem bk_up {r0 k : Nat} {p : Nat → Int} {nb : Bool} {b : List Int} {le : Int} (h : Bk m o ov mo r0 k p nb b le) (hl : p k < mo) : Ag m o ov mo k (fun j => if j = k then p k + 1 else p j) nb b le ∧ r0 < rank m mo k (fun j => if j = k then p k + 1 else p j) := by
  have h0 := (h.hp k h.hk).1
  have e : rk (mo.toNat + 1) (fun j => if j = k then p k + 1 else p j) (k + 1) = rk (mo.toNat + 1) p (k + 1) + 1 := rk_up (fun j hj => by rw [if_neg (by omega)]) (by rw [if_pos rfl]) h0
  refine ⟨⟨h.hk, fun j hj => ?_, fun j hj => by rw [if_neg (by omega)]; exact h.hz j hj, by rw [e]; exact h.opt⟩, by unfold rank; rw [e]; exact h.hr⟩
  try dsimp only
  split
  · rename_i ej; subst ej; omega
  · exact h.hp j hj
/-- What a step back says. -/
theorem bk_pop (ht : Tsk m o ov mo) {r0 k : Nat} {p : Nat → Int} {nb : Bool} {b : List Int} {le : Int} (h : Bk m o ov mo r0 k p nb b le) (hc : mo ≤ p k ∨ exc o ov (madeF m p) = true) :
    Opt m o ov mo ((rk (mo.toNat + 1) p k + 1) * (mo.toNat + 1) ^ (m.length - k)) nb b le ∧ r0 < (rk (mo.toNat + 1) p k + 1) * (mo.toNat + 1) ^ (m.length - k) := by
  have hk := h.hk
  have hd := pl_dig h.hp k hk
  have e : (rk (mo.toNat + 1) p k + 1) * (mo.toNat + 1) ^ (m.length - k) = ((rk (mo.toNat + 1) p k + 1) * (mo.toNat + 1)) * (mo.toNat + 1) ^ (m.length - (k + 1)) := by
    rw [Nat.mul_assoc, Nat.mul_comm (mo.toNat + 1) (_ ^ _), ← Nat.pow_succ, show Nat.succ (m.length - (k + 1)) = m.length - k by omega]
  have hle : (rk (mo.toNat + 1) p (k + 1) + 1) * (mo.toNat + 1) ^ (m.length - (k + 1)) ≤ (rk (mo.toNat + 1) p k + 1) * (mo.toNat + 1) ^ (m.length - k) := by
    rw [e]
    refine Nat.mul_le_mul_right _ ?_
    simp only [rk]
    rw [Nat.add_mul]
    omega
  refine ⟨opt_skip hle h.opt fun q h1 h2 h3 h4 => ?_, Nat.lt_of_lt_of_le h.hr hle⟩
  exfalso
  have hlow : rk (mo.toNat + 1) p k * (mo.toNat + 1) ^ (m.length - k) ≤ rk (mo.toNat + 1) q m.length := by
    refine Nat.le_trans ?_ h3
    rw [show m.length - k = m.length - (k + 1) + 1 by omega, Nat.pow_succ, Nat.mul_comm (_ ^ _), ← Nat.mul_assoc]
    refine Nat.mul_le_mul_right _ ?_
    simp only [rk]
    omega
  have e1 : rk (mo.toNat + 1) q k = rk (mo.toNat + 1) p k := rk_pre (by omega) (pl_dig h1) hlow h4
  have heq := plan_eq (by omega) h.hp h1 e1
  have h5 := (rk_mid (a := 0) (n := k + 1) (by omega) (pl_dig h1)).1
  have h6 : rk (mo.toNat + 1) p (k + 1) + 1 ≤ rk (mo.toNat + 1) q (k + 1) := by
    rcases Nat.lt_or_ge (rk (mo.toNat + 1) q (k + 1)) (rk (mo.toNat + 1) p (k + 1) + 1) with h7 | h7
    · have := Nat.mul_le_mul_right ((mo.toNat + 1) ^ (m.length - (k + 1))) (show rk (mo.toNat + 1) q (k + 1) + 1 ≤ rk (mo.toNat + 1) p (k + 1) + 1 by omega)
      omega
    · exact h7
  have h8 : p k < q k := by
    simp only [rk, e1] at h6
    have := h.hp k hk
    have := h1 k hk
    omega
  rcases hc with hc | hc
  · have := h1 k hk
    omega
  · refine exc_no ht (fun j hj => ?_) hc h2
    rcases Nat.lt_trichotomy j k with hj2 | hj2 | hj2
    · rw [heq j hj2]; exact Int.le_refl _
    · subst hj2; omega
    · rw [h.hz j hj2]; exact (h1 j hj).1
theorem bk_down (ht : Tsk m o ov mo) {r0 k : Nat} {p : Nat → Int} {nb : Bool} {b : List Int} {le : Int} (h : Bk m o ov mo r0 (k + 1) p nb b le) (hc : mo ≤ p (k + 1) ∨ exc o ov (madeF m p) = true) :
    Bk m o ov mo r0 k (fun j => if j = k + 1 then p (k + 1) + (0 - p (k + 1)) else p j) nb b le := by
  obtain ⟨h1, h2⟩ := bk_pop ht h hc
  have hk := h.hk
  have e : rk (mo.toNat + 1) (fun j => if j = k + 1 then p (k + 1) + (0 - p (k + 1)) else p j) (k + 1) = rk (mo.toNat + 1) p (k + 1) := rk_congr fun j hj => by rw [if_neg (by omega)]
  refine ⟨by omega, fun j hj => ?_, fun j hj => ?_, by rw [e]; exact h1, by rw [e]; exact h2⟩
  · try dsimp only
    split
    · have := ht.hmo; omega
    · exact h.hp j hj
  · try dsimp only
    split
    · omega
    · exact h.hz j (by omega)
theorem bk_end (ht : Tsk m o ov mo) {r0 : Nat} {p : Nat → Int} {nb : Bool} {b : List Int} {le : Int} (h : Bk m o ov mo r0 0 p nb b le) (hc : mo ≤ p 0 ∨ exc o ov (madeF m p) = true) :
    Opt m o ov mo ((mo.toNat + 1) ^ m.length) nb b le ∧ (fun j => if j = 0 then p 0 + (0 - p 0) else p j) = fun _ => 0 := by
  obtain ⟨h1, h2⟩ := bk_pop ht h hc
  simp only [rk, Nat.zero_add, Nat.one_mul, Nat.sub_zero] at h1
  refine ⟨h1, funext fun j => ?_⟩
  split
  · omega
  · exact h.hz j (by omega)
theorem ms_lt {k k' : Nat} {p p' : Nat → Int} (hk : k < m.length) (hp : Pl m mo p) (h : rank m mo k p < rank m mo k' p') : msA m mo k' p' < msA m mo k p := by
  have h1 := rk_lt (B := mo.toNat + 1) (n := k + 1) (p := p) fun j hj => pl_dig hp j (by omega)
  have h2 : rank m mo k p < (mo.toNat + 1) ^ m.length := by
    unfold rank
    have h3 := Nat.mul_lt_mul_of_pos_right h1 (pow_pos' mo.toNat (m.length - (k + 1)))
    rw [← Nat.pow_add, show k + 1 + (m.length - (k + 1)) = m.length by omega] at h3
    exact h3
  unfold msA
  have h4 := Nat.mul_le_mul_right (m.length + 1) (show (mo.toNat + 1) ^ m.length - rank m mo k' p' + 1 ≤ (mo.toNat + 1) ^ m.length - rank m mo k p by omega)
  rw [Nat.add_mul] at h4
  omega
theorem ms_next {k : Nat} {p : Nat → Int} (hl : k + 1 < m.length) (h : rank m mo (k + 1) p = rank m mo k p) : msA m mo (k + 1) p < msA m mo k p := by
  unfold msA
  rw [h]
  omega
theorem ag_init (ht : Tsk m o ov mo) : Ag m o ov mo 0 (fun _ => 0) true [] 0 := by
  refine ⟨ht.hm1, fun j hj => ⟨Int.le_refl _, ht.hmo.1⟩, fun _ _ => rfl, ⟨fun q h1 h2 h3 => ?_, (fun h => by cases h), fun _ => ⟨rfl, rfl⟩⟩⟩
  simp [rk] at h3
/-! the numbers of a state -/
theorem madeF_rng (ht : Tsk m o ov mo) {p : Nat → Int} (hp : Pl m mo p) (i : Nat) : 0 ≤ madeF m p i ∧ madeF m p i ≤ 1440 := by
  have h1 : 0 ≤ madeF m p i := by
    have := sumN_le (f := fun _ => 0) (g := fun j => p j * nOf m j i) (n := m.length) fun j hj => Int.mul_nonneg (hp j hj).1 (ht.hn j i).1
    rwa [sumN_zero fun _ _ => rfl] at this
  have key : ∀ n, n ≤ m.length → sumN (fun j => p j * nOf m j i) n ≤ 240 * (n : Nat) := by
    intro n hn
    induction n with
    | zero => simp [sumN]
    | succ n ih =>
      have := ih (by omega)
      have := mul_rng (B := 6) (hp n (by omega)).1 (Int.le_trans (hp n (by omega)).2 ht.hmo.2) (ht.hn n i).1 (ht.hn n i).2
      simp only [sumN]
      omega
  have h2 := key m.length (Nat.le_refl _)
  have := ht.hm
  unfold madeF at *
  omega
theorem costF_rng (ht : Tsk m o ov mo) {p : Nat → Int} (hp : Pl m mo p) : 0 ≤ costF m p ∧ costF m p ≤ 251658240 := by
  have h1 : 0 ≤ costF m p := by
    have := sumN_le (f := fun _ => 0) (g := fun j => p j * lOf m j) (n := m.length) fun j hj => Int.mul_nonneg (hp j hj).1 (by have := ht.hl j hj; omega)
    rwa [sumN_zero fun _ _ => rfl] at this
  have key : ∀ n, n ≤ m.length → sumN (fun j => p j * lOf m j) n ≤ 41943040 * (n : Nat) := by
    intro n hn
    induction n with
    | zero => simp [sumN]
    | succ n ih =>
      have := ih (by omega)
      have h3 := ht.hl n (by omega)
      have := mul_rng (B := 1048576) (hp n (by omega)).1 (Int.le_trans (hp n (by omega)).2 ht.hmo.2) (by omega) h3.2
      simp only [sumN]
      omega
  have h2 := key m.length (Nat.le_refl _)
  have := ht.hm
  unfold costF at *
  omega
theorem sum_lay {p : Nat → Int} {k : Nat} (hk : k < m.length) (n : Int) (f : Nat → Int) : sumN (fun j => (if j = k then p k + n else p j) * f j) m.length = sumN (fun j => p j * f j) m.length + n * f k := by
  have := sumN_upd (fun j => p j * f j) k (n * f k) m.length
  rw [if_pos hk] at this
  rw [← this]
  refine sumN_congr fun j hj => ?_
  split
  · rename_i e; subst e; rw [Int.add_mul]
  · rfl
theorem lay_cost {p : Nat → Int} {k : Nat} (hk : k < m.length) (n : Int) : costF m (fun j => if j = k then p k + n else p j) = costF m p + n * lOf m k := sum_lay hk n (lOf m)
theorem lay_made (ht : Tsk m o ov mo) {p : Nat → Int} {k : Nat} (hk : k < m.length) (n : Int) : made1 m o k n (madeF m p) o.length = madeF m (fun j => if j = k then p k + n else p j) := by
  funext i
  unfold made1
  have h := sum_lay (p := p) hk n fun j => nOf m j i
  unfold madeF
  rw [h]
  split
  · rfl
  · rename_i hi
    have : nOf m k i = 0 := by
      unfold nOf
      rw [List.getD_eq_getElem?_getD, List.getElem?_eq_none (by have := ht.hc k hk; omega)]
      rfl
    rw [this]
    simp
end
end Go.Sim
end
section
namespace Go.Sim
open Go Go.Proofs
set_option maxRecDepth 10000
set_option autoImplicit false
set_option linter.unusedSimpArgs false
set_option linter.unusedVariables false
section
variable {m : List Mix} {o : List Int} {ov mo : Int}
abbrev stO (m : List Mix) (o : List Int) (ov mo : Int) (k : Nat) (p : Nat → Int) (nb : Bool) (b : List Int) (le : Int) : SObj := schO m o ov mo k p (madeF m p) (costF m p) nb b le
theorem lay_st (h : Tsk m o ov mo) {k : Nat} (hk : k < m.length) {p : Nat → Int} (hp : Pl m mo p) (n : Int) (hp' : Pl m mo (fun j => if j = k then p k + n else p j)) (nb : Bool) (b : List Int) (le : Int) :
    SC Try.prog 32 [.ptr 0 0 0, .int .i64 n] [stO m o ov mo k p nb b le] (.tup []) [stO m o ov mo k (fun j => if j = k then p k + n else p j) nb b le] := by
  have h1 := hp k hk
  have h2 := hp' k hk
  simp only [if_true] at h2
  have h3 := h.hmo
  have h4 := costF_rng h hp
  have h5 := costF_rng h hp'
  rw [lay_cost hk] at h5
  have := lay_ok (p := p) (d := madeF m p) (c := costF m p) (nb := nb) (b := b) (le := le) h hk n (by omega) (madeF_rng h hp) (fun i hi => by
    have := madeF_rng h hp' i
    have e := congrFun (lay_made h hk (p := p) n) i
    rw [← e] at this
    simpa [made1, hi] using this) (by omega) (by omega) (by omega)
  rw [lay_made h hk, ← lay_cost hk] at this
  exact this
theorem exc_st (h : Tsk m o ov mo) {p : Nat → Int} (hp : Pl m mo p) (k : Nat) (nb : Bool) (b : List Int) (le : Int) : SC Try.prog 29 [.ptr 0 0 0] [stO m o ov mo k p nb b le] (.bool (exc o ov (madeF m p))) [stO m o ov mo k p nb b le] :=
  exceeds_ok h (madeF_rng h hp)
theorem hop_st (h : Tsk m o ov mo) {p : Nat → Int} (hp : Pl m mo p) {k : Nat} (hk : k < m.length) (nb : Bool) (b : List Int) (le : Int) (hb : nb = false → 0 < b.length) :
    SC Try.prog 30 [.ptr 0 0 0] [stO m o ov mo k p nb b le] (.bool (hopB (m.drop (k + 1)) o mo (madeF m p) (costF m p) nb le)) [stO m o ov mo k p nb b le] :=
  hopeless_ok h hk (madeF_rng h hp) (by have := costF_rng h hp; omega) hb
theorem keep_st (h : Tsk m o ov mo) (p : Nat → Int) (k : Nat) (nb : Bool) (b : List Int) (le : Int) : SC Try.prog 31 [.ptr 0 0 0] [stO m o ov mo k p nb b le] (.tup []) [stO m o ov mo k p false ((List.range m.length).map p) (costF m p)] :=
  keep_ok h
abbrev schZ (m : List Mix) (o : List Int) (ov mo : Int) (z : Int) (p d : Nat → Int) (c : Int) (nb : Bool) (b : List Int) (le : Int) : SObj :=
  .obj 0 50 0 [.row TMix m, .row TI64 o, .int .i64 ov, .int .i64 mo, .int .i64 z, .arr .i64 6 p, .arr .i64 12 d, .int .i64 c, .nrow nb TI64 b, .int .i64 le]
theorem pl_down (h : Tsk m o ov mo) {p : Nat → Int} (hp : Pl m mo p) (k : Nat) : Pl m mo (fun j => if j = k then p k + (0 - p k) else p j) := fun j hj => by
  have := h.hmo
  try dsimp only
  split
  · omega
  · exact hp j hj
theorem pick_no {a mo : Int} {e : Bool} (h : a < mo → e = true) : mo ≤ a ∨ e = true := by
  rcases Int.lt_or_le a mo with h1 | h1
  · exact .inr (h h1)
  · exact .inl h1
theorem run_ok (h : Tsk m o ov mo) {nb : Bool} {b : List Int} {le : Int} (hu : ∀ nb' b' le', Opt m o ov mo ((mo.toNat + 1) ^ m.length) nb' b' le' → nb' = nb ∧ b' = b ∧ le' = le) :
    SC Try.prog 22 [.ptr 0 0 0] [stO m o ov mo 0 (fun _ => 0) true [] 0] (.tup []) [stO m o ov mo 0 (fun _ => 0) nb b le] := by
  have h1 := h.hm
  have h2 := h.hm1
  have h3 := h.hmo
  refine fn_s [] rfl Try.func22 Try.ntmps22 rfl rfl rfl ?_
  refine aw_again (X := (Nat) × (Nat → Int) × (Bool) × (List Int) × (Int)) (fun (x : (Nat) × (Nat → Int) × (Bool) × (List Int) × (Int)) => match x with | (k, p, nb', b', le') => outT (look [(0, .ptr 0 0 0)])) (fun (x : (Nat) × (Nat → Int) × (Bool) × (List Int) × (Int)) => match x with | (k, p, nb', b', le') => outS [stO m o ov mo k p nb' b' le']) (fun (x : (Nat) × (Nat → Int) × (Bool) × (List Int) × (Int)) => match x with | (k, p, nb', b', le') => (Ag m o ov mo k p nb' b' le')) (fun (x : (Nat) × (Nat → Int) × (Bool) × (List Int) × (Int)) => match x with | (k, p, nb', b', le') => msA m mo k p) ((0, fun _ => 0, true, [], 0)) ?_ ?_ ?_
  -- leaf A:entry
  · exact goes_to (tm := _) (st := _) [true] rfl rfl ⟨(by first | rfl | exact q_lst (by simp) | exact q_grow (by simp)), True.intro⟩ ⟨(by first | exact sk rfl rfl | exact sk (q_int (by omega)) rfl | exact sk (q_bool (by simp)) rfl | exact sk (q_view rfl rfl rfl (by omega)) rfl | exact sk (q_gview rfl (by simp)) rfl | exact sk (q_nil rfl) rfl | exact sk (q_row (by simp)) rfl | exact sk_g rfl rfl rfl rfl | exact sk_v rfl rfl rfl rfl rfl | exact sk_n rfl), True.intro⟩
  · exact ag_init h
  · skip
    rintro ⟨k, p, nb', b', le'⟩ ha
    change awpB _ _ _ _ _ (outT (look [(0, .ptr 0 0 0)])) (outS [stO m o ov mo k p nb' b' le'])
    refine aw_seq ?_
    refine aw_block ?_
    refine aw_loop (X := Unit) (fun (_ : Unit) => outT (look [(0, .ptr 0 0 0)])) (fun (_ : Unit) => outS [stO m o ov mo k p nb' b' le']) (fun (_ : Unit) => True) (fun (_ : Unit) => 0) (()) ?_ ?_ ?_
    -- leaf L0:entry
    · exact goes_to (tm := _) (st := _) [true] rfl rfl ⟨(by first | rfl | exact q_lst (by simp) | exact q_grow (by simp)), True.intro⟩ ⟨(by first | exact sk rfl rfl | exact sk (q_int (by omega)) rfl | exact sk (q_bool (by simp)) rfl | exact sk (q_view rfl rfl rfl (by omega)) rfl | exact sk (q_gview rfl (by simp)) rfl | exact sk (q_nil rfl) rfl | exact sk (q_row (by simp)) rfl | exact sk_g rfl rfl rfl rfl | exact sk_v rfl rfl rfl rfl rfl | exact sk_n rfl), True.intro⟩
    · exact True.intro
    · skip
      rintro _ _
      change awpB _ _ _ _ _ (outT (look [(0, .ptr 0 0 0)])) (outS [stO m o ov mo k p nb' b' le'])
      have g1 := ha.hk
      refine aw_seq ?_
      refine aw_seq ?_
      refine aw_reg _ (by kernel_rfl) rfl ?_
      refine st (m := false) tabok rfl rfl rfl (by (repeat' apply And.intro); all_goals first | exact True.intro | rfl | omega | (simp only [inr]; omega) | (simp only [IntKind.bits]; omega) | exact fun h => h | (intro hq; rw [hq]; rfl) | (simp only [Int.toNat_natCast, dflt_i, dflt_b, dflt_l, dflt_p, Int.toNat_zero, gt_iff_lt, ge_iff_le]; omega) | (simp only [ti3, ti4, ti22, ti41]; omega) | (simp [ti3, ti4, ti22, ti41]; omega) | (simp_all; done) | (simp [SV.cellsL, SV.cells]; done) | (simp [SV.cellsL, SV.cells]; omega)) ?_
      refine sca [0] (exc_st h ha.hp k nb' b' le') rfl rfl (by kernel_rfl) rfl (by kernel_rfl) rfl rfl rfl rfl rfl rfl rfl rfl rfl rfl ⟨(by first | rfl | exact q_obj rfl), True.intro⟩ (.cons (by first | exact argw_same | exact argw_nil | exact argw_tt | exact argw_ff | exact argw_eq rfl) .nil) ?_
      refine st (m := false) tabok rfl rfl rfl (by (repeat' apply And.intro); all_goals first | exact True.intro | rfl | omega | (simp only [inr]; omega) | (simp only [IntKind.bits]; omega) | exact fun h => h | (intro hq; rw [hq]; rfl) | (simp only [Int.toNat_natCast, dflt_i, dflt_b, dflt_l, dflt_p, Int.toNat_zero, gt_iff_lt, ge_iff_le]; omega) | (simp only [ti3, ti4, ti22, ti41]; omega) | (simp [ti3, ti4, ti22, ti41]; omega) | (simp_all; done) | (simp [SV.cellsL, SV.cells]; done) | (simp [SV.cellsL, SV.cells]; omega)) ?_
      refine ops_nil ?_
      refine aw_if rfl (fun c0 => ?_) (fun c0 => ?_)
      · try simp only [Bool.or_eq_true, Bool.and_eq_true, Bool.not_eq_true', Bool.not_eq_false', Bool.or_eq_false_iff, Bool.and_eq_false_imp, decide_eq_true_eq, decide_eq_false_iff_not, Bool.not_true, Bool.not_false, beq_iff_eq, Bool.not_eq_true, Bool.not_eq_false, Bool.true_eq_false, Bool.false_eq_true, not_or, Decidable.not_not, ne_eq] at c0
        try simp only [Int.toNat_natCast, dflt_i, dflt_b, dflt_l, dflt_p, Int.toNat_zero, gt_iff_lt, ge_iff_le] at c0
        refine aw_skip ?_
        refine aw_block ?_
        refine aw_seq ?_
        refine aw_seq ?_
        refine aw_reg _ (by kernel_rfl) rfl ?_
        refine st (m := false) tabok rfl rfl rfl (by (repeat' apply And.intro); all_goals first | exact True.intro | rfl | omega | (simp only [inr]; omega) | (simp only [IntKind.bits]; omega) | exact fun h => h | (intro hq; rw [hq]; rfl) | (simp only [Int.toNat_natCast, dflt_i, dflt_b, dflt_l, dflt_p, Int.toNat_zero, gt_iff_lt, ge_iff_le]; omega) | (simp only [ti3, ti4, ti22, ti41]; omega) | (simp [ti3, ti4, ti22, ti41]; omega) | (simp_all; done) | (simp [SV.cellsL, SV.cells]; done) | (simp [SV.cellsL, SV.cells]; omega)) ?_
        refine sca [0] (hop_st h ha.hp ha.hk nb' b' le' (fun hn => by have := (ha.opt.is hn).2.2.2.1; omega)) rfl rfl (by kernel_rfl) rfl (by kernel_rfl) rfl rfl rfl rfl rfl rfl rfl rfl rfl rfl ⟨(by first | rfl | exact q_obj rfl), True.intro⟩ (.cons (by first | exact argw_same | exact argw_nil | exact argw_tt | exact argw_ff | exact argw_eq rfl) .nil) ?_
        refine ops_nil ?_
        refine aw_if rfl (fun c1 => ?_) (fun c1 => ?_)
        · try simp only [Bool.or_eq_true, Bool.and_eq_true, Bool.not_eq_true', Bool.not_eq_false', Bool.or_eq_false_iff, Bool.and_eq_false_imp, decide_eq_true_eq, decide_eq_false_iff_not, Bool.not_true, Bool.not_false, beq_iff_eq, Bool.not_eq_true, Bool.not_eq_false, Bool.true_eq_false, Bool.false_eq_true, not_or, Decidable.not_not, ne_eq] at c1
          try simp only [Int.toNat_natCast, dflt_i, dflt_b, dflt_l, dflt_p, Int.toNat_zero, gt_iff_lt, ge_iff_le] at c1
          refine aw_exit ?_
          refine aw_seq ?_
          refine aw_label ?_
          refine aw_block ?_
          refine aw_loop (X := (Nat) × (Nat → Int) × (Bool) × (List Int) × (Int)) (fun (x : (Nat) × (Nat → Int) × (Bool) × (List Int) × (Int)) => match x with | (k2, p2, nb2, b2, le2) => outT (look [(0, .ptr 0 0 0)])) (fun (x : (Nat) × (Nat → Int) × (Bool) × (List Int) × (Int)) => match x with | (k2, p2, nb2, b2, le2) => outS [stO m o ov mo k2 p2 nb2 b2 le2]) (fun (x : (Nat) × (Nat → Int) × (Bool) × (List Int) × (Int)) => match x with | (k2, p2, nb2, b2, le2) => (Bk m o ov mo (rank m mo k p) k2 p2 nb2 b2 le2)) (fun (x : (Nat) × (Nat → Int) × (Bool) × (List Int) × (Int)) => match x with | (k2, p2, nb2, b2, le2) => k2) ((k, p, nb', b', le')) ?_ ?_ ?_
          -- leaf L1:entry.0t.1t
          · exact goes_to (tm := _) (st := _) [true] rfl rfl ⟨(by first | rfl | exact q_lst (by simp) | exact q_grow (by simp)), True.intro⟩ ⟨(by first | exact sk rfl rfl | exact sk (q_int (by omega)) rfl | exact sk (q_bool (by simp)) rfl | exact sk (q_view rfl rfl rfl (by omega)) rfl | exact sk (q_gview rfl (by simp)) rfl | exact sk (q_nil rfl) rfl | exact sk (q_row (by simp)) rfl | exact sk_g rfl rfl rfl rfl | exact sk_v rfl rfl rfl rfl rfl | exact sk_n rfl), True.intro⟩
          · exact ag_hop h ha c1
          · skip
            rintro ⟨k2, p2, nb2, b2, le2⟩ hb
            change awpB _ _ _ _ _ (outT (look [(0, .ptr 0 0 0)])) (outS [stO m o ov mo k2 p2 nb2 b2 le2])
            have g2 := hb.hk
            have g3 := hb.hp k2 g2
            refine aw_block ?_
            refine aw_seq ?_
            refine aw_seq ?_
            refine aw_regD false _ (by kernel_rfl) (by kernel_rfl) (by kernel_rfl) rfl ?_
            iterate 15 refine sd (m := false) tabok rfl rfl rfl (by (repeat' apply And.intro); all_goals first | exact True.intro | rfl | omega | (simp only [inr]; omega) | (simp only [IntKind.bits]; omega) | exact fun h => h | (intro hq; rw [hq]; rfl) | (simp only [Int.toNat_natCast, dflt_i, dflt_b, dflt_l, dflt_p, Int.toNat_zero, gt_iff_lt, ge_iff_le]; omega) | (simp only [ti3, ti4, ti22, ti41]; omega) | (simp [ti3, ti4, ti22, ti41]; omega) | (simp_all; done) | (simp [SV.cellsL, SV.cells]; done) | (simp [SV.cellsL, SV.cells]; omega)) ?_
            refine sdg (m := false) tabok rfl rfl rfl rfl rfl (by intro hg; have hg0 := hg; (try simp only [Bool.or_eq_true, Bool.and_eq_true, Bool.not_eq_true', Bool.not_eq_false', Bool.or_eq_false_iff, Bool.and_eq_false_imp, decide_eq_true_eq, decide_eq_false_iff_not, Bool.not_true, Bool.not_false, beq_iff_eq, Bool.not_eq_true, Bool.not_eq_false, Bool.true_eq_false, Bool.false_eq_true, not_or, Decidable.not_not, ne_eq] at hg); (try simp only [Int.toNat_natCast, dflt_i, dflt_b, dflt_l, dflt_p, Int.toNat_zero, gt_iff_lt, ge_iff_le] at hg); (repeat' apply And.intro); all_goals first | exact hg0 | exact True.intro | rfl | omega | (simp only [inr]; omega) | (simp only [IntKind.bits]; omega) | (simp only [Bool.or_eq_true, Bool.and_eq_true, Bool.not_eq_true', Bool.not_eq_false', Bool.or_eq_false_iff, Bool.and_eq_false_imp, decide_eq_true_eq, decide_eq_false_iff_not, Bool.not_true, Bool.not_false, beq_iff_eq, Bool.not_eq_true, Bool.not_eq_false, Bool.true_eq_false, Bool.false_eq_true, not_or, Decidable.not_not, ne_eq]; omega) | (simp only [inr, Int.toNat_natCast, dflt_i, dflt_b, dflt_l, dflt_p, Int.toNat_zero, gt_iff_lt, ge_iff_le]; omega) | (simp only [Int.toNat_natCast, dflt_i, dflt_b, dflt_l, dflt_p, Int.toNat_zero, gt_iff_lt, ge_iff_le]; omega) | (simp only [Bool.or_eq_true, Bool.and_eq_true, Bool.not_eq_true', Bool.not_eq_false', Bool.or_eq_false_iff, Bool.and_eq_false_imp, decide_eq_true_eq, decide_eq_false_iff_not, Bool.not_true, Bool.not_false, beq_iff_eq, Bool.not_eq_true, Bool.not_eq_false, Bool.true_eq_false, Bool.false_eq_true, not_or, Decidable.not_not, ne_eq] at hg0 ⊢; simp_all; done) | (simp_all; done) | (simp_all; omega)) ?_
            refine sdag rfl [0] (fun hg => exc_st h hb.hp k2 nb2 b2 le2) rfl rfl rfl rfl rfl (by kernel_rfl) rfl rfl rfl rfl rfl rfl rfl rfl rfl ⟨(by first | rfl | exact q_obj rfl), True.intro⟩ (.cons (by first | exact argw_same | exact argw_nil | exact argw_tt | exact argw_ff | exact argw_eq rfl) .nil) rfl (by intro hg; have hg0 := hg; (try simp only [Bool.or_eq_true, Bool.and_eq_true, Bool.not_eq_true', Bool.not_eq_false', Bool.or_eq_false_iff, Bool.and_eq_false_imp, decide_eq_true_eq, decide_eq_false_iff_not, Bool.not_true, Bool.not_false, beq_iff_eq, Bool.not_eq_true, Bool.not_eq_false, Bool.true_eq_false, Bool.false_eq_true, not_or, Decidable.not_not, ne_eq] at hg); (try simp only [Int.toNat_natCast, dflt_i, dflt_b, dflt_l, dflt_p, Int.toNat_zero, gt_iff_lt, ge_iff_le] at hg); (repeat' apply And.intro); all_goals first | exact hg0 | exact True.intro | rfl | omega | (simp only [inr]; omega) | (simp only [IntKind.bits]; omega) | (simp only [Bool.or_eq_true, Bool.and_eq_true, Bool.not_eq_true', Bool.not_eq_false', Bool.or_eq_false_iff, Bool.and_eq_false_imp, decide_eq_true_eq, decide_eq_false_iff_not, Bool.not_true, Bool.not_false, beq_iff_eq, Bool.not_eq_true, Bool.not_eq_false, Bool.true_eq_false, Bool.false_eq_true, not_or, Decidable.not_not, ne_eq]; omega) | (simp only [inr, Int.toNat_natCast, dflt_i, dflt_b, dflt_l, dflt_p, Int.toNat_zero, gt_iff_lt, ge_iff_le]; omega) | (simp only [Int.toNat_natCast, dflt_i, dflt_b, dflt_l, dflt_p, Int.toNat_zero, gt_iff_lt, ge_iff_le]; omega) | (simp only [Bool.or_eq_true, Bool.and_eq_true, Bool.not_eq_true', Bool.not_eq_false', Bool.or_eq_false_iff, Bool.and_eq_false_imp, decide_eq_true_eq, decide_eq_false_iff_not, Bool.not_true, Bool.not_false, beq_iff_eq, Bool.not_eq_true, Bool.not_eq_false, Bool.true_eq_false, Bool.false_eq_true, not_or, Decidable.not_not, ne_eq] at hg0 ⊢; simp_all; done) | (simp_all; done) | (simp_all; omega)) ?_
            refine sdg (m := false) tabok rfl rfl rfl rfl rfl (by intro hg; have hg0 := hg; (try simp only [Bool.or_eq_true, Bool.and_eq_true, Bool.not_eq_true', Bool.not_eq_false', Bool.or_eq_false_iff, Bool.and_eq_false_imp, decide_eq_true_eq, decide_eq_false_iff_not, Bool.not_true, Bool.not_false, beq_iff_eq, Bool.not_eq_true, Bool.not_eq_false, Bool.true_eq_false, Bool.false_eq_true, not_or, Decidable.not_not, ne_eq] at hg); (try simp only [Int.toNat_natCast, dflt_i, dflt_b, dflt_l, dflt_p, Int.toNat_zero, gt_iff_lt, ge_iff_le] at hg); (repeat' apply And.intro); all_goals first | exact hg0 | exact True.intro | rfl | omega | (simp only [inr]; omega) | (simp only [IntKind.bits]; omega) | (simp only [Bool.or_eq_true, Bool.and_eq_true, Bool.not_eq_true', Bool.not_eq_false', Bool.or_eq_false_iff, Bool.and_eq_false_imp, decide_eq_true_eq, decide_eq_false_iff_not, Bool.not_true, Bool.not_false, beq_iff_eq, Bool.not_eq_true, Bool.not_eq_false, Bool.true_eq_false, Bool.false_eq_true, not_or, Decidable.not_not, ne_eq]; omega) | (simp only [inr, Int.toNat_natCast, dflt_i, dflt_b, dflt_l, dflt_p, Int.toNat_zero, gt_iff_lt, ge_iff_le]; omega) | (simp only [Int.toNat_natCast, dflt_i, dflt_b, dflt_l, dflt_p, Int.toNat_zero, gt_iff_lt, ge_iff_le]; omega) | (simp only [Bool.or_eq_true, Bool.and_eq_true, Bool.not_eq_true', Bool.not_eq_false', Bool.or_eq_false_iff, Bool.and_eq_false_imp, decide_eq_true_eq, decide_eq_false_iff_not, Bool.not_true, Bool.not_false, beq_iff_eq, Bool.not_eq_true, Bool.not_eq_false, Bool.true_eq_false, Bool.false_eq_true, not_or, Decidable.not_not, ne_eq] at hg0 ⊢; simp_all; done) | (simp_all; done) | (simp_all; omega)) ?_
            refine sd (m := false) tabok rfl rfl rfl (by (repeat' apply And.intro); all_goals first | exact True.intro | rfl | omega | (simp only [inr]; omega) | (simp only [IntKind.bits]; omega) | exact fun h => h | (intro hq; rw [hq]; rfl) | (simp only [Int.toNat_natCast, dflt_i, dflt_b, dflt_l, dflt_p, Int.toNat_zero, gt_iff_lt, ge_iff_le]; omega) | (simp only [ti3, ti4, ti22, ti41]; omega) | (simp [ti3, ti4, ti22, ti41]; omega) | (simp_all; done) | (simp [SV.cellsL, SV.cells]; done) | (simp [SV.cellsL, SV.cells]; omega)) ?_
            refine opd_nil ?_
            refine aw_if rfl (fun c5 => ?_) (fun c5 => ?_)
            · try simp only [Bool.or_eq_true, Bool.and_eq_true, Bool.not_eq_true', Bool.not_eq_false', Bool.or_eq_false_iff, Bool.and_eq_false_imp, decide_eq_true_eq, decide_eq_false_iff_not, Bool.not_true, Bool.not_false, beq_iff_eq, Bool.not_eq_true, Bool.not_eq_false, Bool.true_eq_false, Bool.false_eq_true, not_or, Decidable.not_not, ne_eq] at c5
              try simp only [Int.toNat_natCast, dflt_i, dflt_b, dflt_l, dflt_p, Int.toNat_zero, gt_iff_lt, ge_iff_le] at c5
              refine aw_seq ?_
              refine aw_reg _ (by kernel_rfl) rfl ?_
              refine st (m := false) tabok rfl rfl rfl (by (repeat' apply And.intro); all_goals first | exact True.intro | rfl | omega | (simp only [inr]; omega) | (simp only [IntKind.bits]; omega) | exact fun h => h | (intro hq; rw [hq]; rfl) | (simp only [Int.toNat_natCast, dflt_i, dflt_b, dflt_l, dflt_p, Int.toNat_zero, gt_iff_lt, ge_iff_le]; omega) | (simp only [ti3, ti4, ti22, ti41]; omega) | (simp [ti3, ti4, ti22, ti41]; omega) | (simp_all; done) | (simp [SV.cellsL, SV.cells]; done) | (simp [SV.cellsL, SV.cells]; omega)) ?_
              refine sca [0] (lay_st h hb.hk hb.hp 1 (bk_up hb c5.1).1.hp nb2 b2 le2) rfl rfl (by kernel_rfl) rfl (by kernel_rfl) rfl rfl rfl rfl rfl rfl rfl rfl rfl rfl ⟨(by first | rfl | exact q_obj rfl), True.intro⟩ (.cons (by first | exact argw_same | exact argw_nil | exact argw_tt | exact argw_ff | exact argw_eq rfl) (.cons (by first | exact argw_same | exact argw_nil | exact argw_tt | exact argw_ff | exact argw_eq rfl) .nil)) ?_
              refine ops_nil ?_
              refine aw_goto ?_
              -- leaf GL1.5t
              refine ⟨rfl, (k2, fun j => if j = k2 then p2 k2 + 1 else p2 j, nb2, b2, le2), ?_, ?_, ?_⟩
              · exact goes_to (tm := _) (st := _) [true] rfl rfl ⟨(by first | rfl | exact q_lst (by simp) | exact q_grow (by simp)), True.intro⟩ ⟨(by first | exact sk rfl rfl | exact sk (q_int (by omega)) rfl | exact sk (q_bool (by simp)) rfl | exact sk (q_view rfl rfl rfl (by omega)) rfl | exact sk (q_gview rfl (by simp)) rfl | exact sk (q_nil rfl) rfl | exact sk (q_row (by simp)) rfl | exact sk_g rfl rfl rfl rfl | exact sk_v rfl rfl rfl rfl rfl | exact sk_n rfl), True.intro⟩
              · try dsimp only
                exact (bk_up hb c5.1).1
              · exact ms_lt ha.hk ha.hp (bk_up hb c5.1).2
            · try simp only [Bool.or_eq_true, Bool.and_eq_true, Bool.not_eq_true', Bool.not_eq_false', Bool.or_eq_false_iff, Bool.and_eq_false_imp, decide_eq_true_eq, decide_eq_false_iff_not, Bool.not_true, Bool.not_false, beq_iff_eq, Bool.not_eq_true, Bool.not_eq_false, Bool.true_eq_false, Bool.false_eq_true, not_or, Decidable.not_not, ne_eq] at c5
              try simp only [Int.toNat_natCast, dflt_i, dflt_b, dflt_l, dflt_p, Int.toNat_zero, gt_iff_lt, ge_iff_le] at c5
              refine aw_skip ?_
              refine aw_seq ?_
              refine aw_regC true 0 11 (by kernel_rfl) (by kernel_rfl) (by kernel_rfl) rfl rfl rfl ?_
              refine opd_nil ?_
              iterate 11 refine sd (m := false) tabok rfl rfl rfl (by (repeat' apply And.intro); all_goals first | exact True.intro | rfl | omega | (simp only [inr]; omega) | (simp only [IntKind.bits]; omega) | exact fun h => h | (intro hq; rw [hq]; rfl) | (simp only [Int.toNat_natCast, dflt_i, dflt_b, dflt_l, dflt_p, Int.toNat_zero, gt_iff_lt, ge_iff_le]; omega) | (simp only [ti3, ti4, ti22, ti41]; omega) | (simp [ti3, ti4, ti22, ti41]; omega) | (simp_all; done) | (simp [SV.cellsL, SV.cells]; done) | (simp [SV.cellsL, SV.cells]; omega)) ?_
              refine opd_nil ?_
              refine sca [0] (lay_st h hb.hk hb.hp (0 - p2 k2) (pl_down h hb.hp k2) nb2 b2 le2) rfl rfl (by kernel_rfl) rfl (by kernel_rfl) rfl rfl rfl rfl rfl rfl rfl rfl rfl rfl ⟨(by first | rfl | exact q_obj rfl), True.intro⟩ (.cons (by first | exact argw_same | exact argw_nil | exact argw_tt | exact argw_ff | exact argw_eq rfl) (.cons (by first | exact argw_same | exact argw_nil | exact argw_tt | exact argw_ff | exact argw_eq rfl) .nil)) ?_
              refine ops_nil ?_
              refine aw_seq ?_
              refine aw_seq ?_
              refine aw_reg _ (by kernel_rfl) rfl ?_
              iterate 5 refine st (m := false) tabok rfl rfl rfl (by (repeat' apply And.intro); all_goals first | exact True.intro | rfl | omega | (simp only [inr]; omega) | (simp only [IntKind.bits]; omega) | exact fun h => h | (intro hq; rw [hq]; rfl) | (simp only [Int.toNat_natCast, dflt_i, dflt_b, dflt_l, dflt_p, Int.toNat_zero, gt_iff_lt, ge_iff_le]; omega) | (simp only [ti3, ti4, ti22, ti41]; omega) | (simp [ti3, ti4, ti22, ti41]; omega) | (simp_all; done) | (simp [SV.cellsL, SV.cells]; done) | (simp [SV.cellsL, SV.cells]; omega)) ?_
              refine ops_nil ?_
              refine aw_if rfl (fun c8 => ?_) (fun c8 => ?_)
              · try simp only [Bool.or_eq_true, Bool.and_eq_true, Bool.not_eq_true', Bool.not_eq_false', Bool.or_eq_false_iff, Bool.and_eq_false_imp, decide_eq_true_eq, decide_eq_false_iff_not, Bool.not_true, Bool.not_false, beq_iff_eq, Bool.not_eq_true, Bool.not_eq_false, Bool.true_eq_false, Bool.false_eq_true, not_or, Decidable.not_not, ne_eq] at c8
                try simp only [Int.toNat_natCast, dflt_i, dflt_b, dflt_l, dflt_p, Int.toNat_zero, gt_iff_lt, ge_iff_le] at c8
                refine aw_exit ?_
                -- leaf ret.5f.8t
                have e : k2 = 0 := by omega
                subst e
                obtain ⟨e1, e2⟩ := bk_end h hb (pick_no c5)
                obtain ⟨rfl, rfl, rfl⟩ := hu _ _ _ e1
                exact ret_sn [] (goes_to (tm := _) (st := _) [true] rfl rfl ⟨(by exact congrArg (fun f => (stO m o ov mo 0 f _ _ _).out) e2), True.intro⟩ True.intro) rfl
              · try simp only [Bool.or_eq_true, Bool.and_eq_true, Bool.not_eq_true', Bool.not_eq_false', Bool.or_eq_false_iff, Bool.and_eq_false_imp, decide_eq_true_eq, decide_eq_false_iff_not, Bool.not_true, Bool.not_false, beq_iff_eq, Bool.not_eq_true, Bool.not_eq_false, Bool.true_eq_false, Bool.false_eq_true, not_or, Decidable.not_not, ne_eq] at c8
                try simp only [Int.toNat_natCast, dflt_i, dflt_b, dflt_l, dflt_p, Int.toNat_zero, gt_iff_lt, ge_iff_le] at c8
                obtain ⟨k3, rfl⟩ : ∃ k3, k2 = k3 + 1 := ⟨k2 - 1, by omega⟩
                refine aw_skip ?_
                refine aw_reg _ (by kernel_rfl) rfl ?_
                iterate 7 refine st (m := false) tabok rfl rfl rfl (by (repeat' apply And.intro); all_goals first | exact True.intro | rfl | omega | (simp only [inr]; omega) | (simp only [IntKind.bits]; omega) | exact fun h => h | (intro hq; rw [hq]; rfl) | (simp only [Int.toNat_natCast, dflt_i, dflt_b, dflt_l, dflt_p, Int.toNat_zero, gt_iff_lt, ge_iff_le]; omega) | (simp only [ti3, ti4, ti22, ti41]; omega) | (simp [ti3, ti4, ti22, ti41]; omega) | (simp_all; done) | (simp [SV.cellsL, SV.cells]; done) | (simp [SV.cellsL, SV.cells]; omega)) ?_
                refine st0 (m := false) tabok rfl rfl rfl (by (repeat' apply And.intro); all_goals first | exact True.intro | rfl | omega | (simp only [inr]; omega) | (simp only [IntKind.bits]; omega) | exact fun h => h | (intro hq; rw [hq]; rfl) | (simp only [Int.toNat_natCast, dflt_i, dflt_b, dflt_l, dflt_p, Int.toNat_zero, gt_iff_lt, ge_iff_le]; omega) | (simp only [ti3, ti4, ti22, ti41]; omega) | (simp [ti3, ti4, ti22, ti41]; omega) | (simp_all; done) | (simp [SV.cellsL, SV.cells]; done) | (simp [SV.cellsL, SV.cells]; omega)) ?_
                refine ops_nil ?_
                -- leaf L1.5f.8f
                refine Exists.intro ((k3, fun j => if j = k3 + 1 then p2 (k3 + 1) + (0 - p2 (k3 + 1)) else p2 j, nb2, b2, le2)) ⟨?_, ?_, ?_⟩
                · exact goes_to (tm := _) (st := _) [true] rfl rfl ⟨(by exact congrArg (fun z => (schZ m o ov mo z _ _ _ nb2 b2 le2).out) (show ((k3 + 1 : Nat) : Int) - 1 = (k3 : Nat) by omega)), True.intro⟩ ⟨(by first | exact sk rfl rfl | exact sk (q_int (by omega)) rfl | exact sk (q_bool (by simp)) rfl | exact sk (q_view rfl rfl rfl (by omega)) rfl | exact sk (q_gview rfl (by simp)) rfl | exact sk (q_nil rfl) rfl | exact sk (q_row (by simp)) rfl | exact sk_g rfl rfl rfl rfl | exact sk_v rfl rfl rfl rfl rfl | exact sk_n rfl), True.intro⟩
                · try dsimp only
                  exact bk_down h hb (pick_no c5)
                · (try dsimp only); omega
        · try simp only [Bool.or_eq_true, Bool.and_eq_true, Bool.not_eq_true', Bool.not_eq_false', Bool.or_eq_false_iff, Bool.and_eq_false_imp, decide_eq_true_eq, decide_eq_false_iff_not, Bool.not_true, Bool.not_false, beq_iff_eq, Bool.not_eq_true, Bool.not_eq_false, Bool.true_eq_false, Bool.false_eq_true, not_or, Decidable.not_not, ne_eq] at c1
          try simp only [Int.toNat_natCast, dflt_i, dflt_b, dflt_l, dflt_p, Int.toNat_zero, gt_iff_lt, ge_iff_le] at c1
          refine aw_skip ?_
          refine aw_seq ?_
          refine aw_seq ?_
          refine aw_regD true _ (by kernel_rfl) (by kernel_rfl) (by kernel_rfl) rfl ?_
          iterate 11 refine sd (m := false) tabok rfl rfl rfl (by (repeat' apply And.intro); all_goals first | exact True.intro | rfl | omega | (simp only [inr]; omega) | (simp only [IntKind.bits]; omega) | exact fun h => h | (intro hq; rw [hq]; rfl) | (simp only [Int.toNat_natCast, dflt_i, dflt_b, dflt_l, dflt_p, Int.toNat_zero, gt_iff_lt, ge_iff_le]; omega) | (simp only [ti3, ti4, ti22, ti41]; omega) | (simp [ti3, ti4, ti22, ti41]; omega) | (simp_all; done) | (simp [SV.cellsL, SV.cells]; done) | (simp [SV.cellsL, SV.cells]; omega)) ?_
          refine opd_nil ?_
          refine aw_if rfl (fun c2 => ?_) (fun c2 => ?_)
          · try simp only [Bool.or_eq_true, Bool.and_eq_true, Bool.not_eq_true', Bool.not_eq_false', Bool.or_eq_false_iff, Bool.and_eq_false_imp, decide_eq_true_eq, decide_eq_false_iff_not, Bool.not_true, Bool.not_false, beq_iff_eq, Bool.not_eq_true, Bool.not_eq_false, Bool.true_eq_false, Bool.false_eq_true, not_or, Decidable.not_not, ne_eq] at c2
            try simp only [Int.toNat_natCast, dflt_i, dflt_b, dflt_l, dflt_p, Int.toNat_zero, gt_iff_lt, ge_iff_le] at c2
            refine aw_seq ?_
            refine aw_reg _ (by kernel_rfl) rfl ?_
            iterate 7 refine st (m := false) tabok rfl rfl rfl (by (repeat' apply And.intro); all_goals first | exact True.intro | rfl | omega | (simp only [inr]; omega) | (simp only [IntKind.bits]; omega) | exact fun h => h | (intro hq; rw [hq]; rfl) | (simp only [Int.toNat_natCast, dflt_i, dflt_b, dflt_l, dflt_p, Int.toNat_zero, gt_iff_lt, ge_iff_le]; omega) | (simp only [ti3, ti4, ti22, ti41]; omega) | (simp [ti3, ti4, ti22, ti41]; omega) | (simp_all; done) | (simp [SV.cellsL, SV.cells]; done) | (simp [SV.cellsL, SV.cells]; omega)) ?_
            refine st0 (m := false) tabok rfl rfl rfl (by (repeat' apply And.intro); all_goals first | exact True.intro | rfl | omega | (simp only [inr]; omega) | (simp only [IntKind.bits]; omega) | exact fun h => h | (intro hq; rw [hq]; rfl) | (simp only [Int.toNat_natCast, dflt_i, dflt_b, dflt_l, dflt_p, Int.toNat_zero, gt_iff_lt, ge_iff_le]; omega) | (simp only [ti3, ti4, ti22, ti41]; omega) | (simp [ti3, ti4, ti22, ti41]; omega) | (simp_all; done) | (simp [SV.cellsL, SV.cells]; done) | (simp [SV.cellsL, SV.cells]; omega)) ?_
            refine ops_nil ?_
            refine aw_goto ?_
            -- leaf GL0.0t.1f.2t
            refine ⟨rfl, (k + 1, p, nb', b', le'), ?_, ?_, ?_⟩
            · exact goes_to (tm := _) (st := _) [true] rfl rfl ⟨(by first | rfl | exact q_lst (by simp) | exact q_grow (by simp)), True.intro⟩ ⟨(by first | exact sk rfl rfl | exact sk (q_int (by omega)) rfl | exact sk (q_bool (by simp)) rfl | exact sk (q_view rfl rfl rfl (by omega)) rfl | exact sk (q_gview rfl (by simp)) rfl | exact sk (q_nil rfl) rfl | exact sk (q_row (by simp)) rfl | exact sk_g rfl rfl rfl rfl | exact sk_v rfl rfl rfl rfl rfl | exact sk_n rfl), True.intro⟩
            · try dsimp only
              exact (ag_next ha (by omega)).1
            · exact ms_next (by omega) (ag_next ha (by omega)).2
          · try simp only [Bool.or_eq_true, Bool.and_eq_true, Bool.not_eq_true', Bool.not_eq_false', Bool.or_eq_false_iff, Bool.and_eq_false_imp, decide_eq_true_eq, decide_eq_false_iff_not, Bool.not_true, Bool.not_false, beq_iff_eq, Bool.not_eq_true, Bool.not_eq_false, Bool.true_eq_false, Bool.false_eq_true, not_or, Decidable.not_not, ne_eq] at c2
            try simp only [Int.toNat_natCast, dflt_i, dflt_b, dflt_l, dflt_p, Int.toNat_zero, gt_iff_lt, ge_iff_le] at c2
            refine aw_skip ?_
            refine aw_seq ?_
            refine aw_reg _ (by kernel_rfl) rfl ?_
            refine st (m := false) tabok rfl rfl rfl (by (repeat' apply And.intro); all_goals first | exact True.intro | rfl | omega | (simp only [inr]; omega) | (simp only [IntKind.bits]; omega) | exact fun h => h | (intro hq; rw [hq]; rfl) | (simp only [Int.toNat_natCast, dflt_i, dflt_b, dflt_l, dflt_p, Int.toNat_zero, gt_iff_lt, ge_iff_le]; omega) | (simp only [ti3, ti4, ti22, ti41]; omega) | (simp [ti3, ti4, ti22, ti41]; omega) | (simp_all; done) | (simp [SV.cellsL, SV.cells]; done) | (simp [SV.cellsL, SV.cells]; omega)) ?_
            refine sca [0] (keep_st h p k nb' b' le') rfl rfl (by kernel_rfl) rfl (by kernel_rfl) rfl rfl rfl rfl rfl rfl rfl rfl rfl rfl ⟨(by first | rfl | exact q_obj rfl), True.intro⟩ (.cons (by first | exact argw_same | exact argw_nil | exact argw_tt | exact argw_ff | exact argw_eq rfl) .nil) ?_
            refine ops_nil ?_
            refine aw_exit ?_
            refine aw_seq ?_
            refine aw_label ?_
            refine aw_block ?_
            refine aw_loop (X := (Nat) × (Nat → Int) × (Bool) × (List Int) × (Int)) (fun (x : (Nat) × (Nat → Int) × (Bool) × (List Int) × (Int)) => match x with | (k2, p2, nb2, b2, le2) => outT (look [(0, .ptr 0 0 0)])) (fun (x : (Nat) × (Nat → Int) × (Bool) × (List Int) × (Int)) => match x with | (k2, p2, nb2, b2, le2) => outS [stO m o ov mo k2 p2 nb2 b2 le2]) (fun (x : (Nat) × (Nat → Int) × (Bool) × (List Int) × (Int)) => match x with | (k2, p2, nb2, b2, le2) => (Bk m o ov mo (rank m mo k p) k2 p2 nb2 b2 le2)) (fun (x : (Nat) × (Nat → Int) × (Bool) × (List Int) × (Int)) => match x with | (k2, p2, nb2, b2, le2) => k2) ((k, p, false, (List.range m.length).map p, costF m p)) ?_ ?_ ?_
            -- leaf L1:entry.0t.1f.2f
            · exact goes_to (tm := _) (st := _) [true] rfl rfl ⟨(by first | rfl | exact q_lst (by simp) | exact q_grow (by simp)), True.intro⟩ ⟨(by first | exact sk rfl rfl | exact sk (q_int (by omega)) rfl | exact sk (q_bool (by simp)) rfl | exact sk (q_view rfl rfl rfl (by omega)) rfl | exact sk (q_gview rfl (by simp)) rfl | exact sk (q_nil rfl) rfl | exact sk (q_row (by simp)) rfl | exact sk_g rfl rfl rfl rfl | exact sk_v rfl rfl rfl rfl rfl | exact sk_n rfl), True.intro⟩
            · exact ag_keep h ha (by omega) c0 c1
            · skip
              rintro ⟨k2, p2, nb2, b2, le2⟩ hb
              change awpB _ _ _ _ _ (outT (look [(0, .ptr 0 0 0)])) (outS [stO m o ov mo k2 p2 nb2 b2 le2])
              have g2 := hb.hk
              have g3 := hb.hp k2 g2
              refine aw_block ?_
              refine aw_seq ?_
              refine aw_seq ?_
              refine aw_regD false _ (by kernel_rfl) (by kernel_rfl) (by kernel_rfl) rfl ?_
              iterate 15 refine sd (m := false) tabok rfl rfl rfl (by (repeat' apply And.intro); all_goals first | exact True.intro | rfl | omega | (simp only [inr]; omega) | (simp only [IntKind.bits]; omega) | exact fun h => h | (intro hq; rw [hq]; rfl) | (simp only [Int.toNat_natCast, dflt_i, dflt_b, dflt_l, dflt_p, Int.toNat_zero, gt_iff_lt, ge_iff_le]; omega) | (simp only [ti3, ti4, ti22, ti41]; omega) | (simp [ti3, ti4, ti22, ti41]; omega) | (simp_all; done) | (simp [SV.cellsL, SV.cells]; done) | (simp [SV.cellsL, SV.cells]; omega)) ?_
              refine sdg (m := false) tabok rfl rfl rfl rfl rfl (by intro hg; have hg0 := hg; (try simp only [Bool.or_eq_true, Bool.and_eq_true, Bool.not_eq_true', Bool.not_eq_false', Bool.or_eq_false_iff, Bool.and_eq_false_imp, decide_eq_true_eq, decide_eq_false_iff_not, Bool.not_true, Bool.not_false, beq_iff_eq, Bool.not_eq_true, Bool.not_eq_false, Bool.true_eq_false, Bool.false_eq_true, not_or, Decidable.not_not, ne_eq] at hg); (try simp only [Int.toNat_natCast, dflt_i, dflt_b, dflt_l, dflt_p, Int.toNat_zero, gt_iff_lt, ge_iff_le] at hg); (repeat' apply And.intro); all_goals first | exact hg0 | exact True.intro | rfl | omega | (simp only [inr]; omega) | (simp only [IntKind.bits]; omega) | (simp only [Bool.or_eq_true, Bool.and_eq_true, Bool.not_eq_true', Bool.not_eq_false', Bool.or_eq_false_iff, Bool.and_eq_false_imp, decide_eq_true_eq, decide_eq_false_iff_not, Bool.not_true, Bool.not_false, beq_iff_eq, Bool.not_eq_true, Bool.not_eq_false, Bool.true_eq_false, Bool.false_eq_true, not_or, Decidable.not_not, ne_eq]; omega) | (simp only [inr, Int.toNat_natCast, dflt_i, dflt_b, dflt_l, dflt_p, Int.toNat_zero, gt_iff_lt, ge_iff_le]; omega) | (simp only [Int.toNat_natCast, dflt_i, dflt_b, dflt_l, dflt_p, Int.toNat_zero, gt_iff_lt, ge_iff_le]; omega) | (simp only [Bool.or_eq_true, Bool.and_eq_true, Bool.not_eq_true', Bool.not_eq_false', Bool.or_eq_false_iff, Bool.and_eq_false_imp, decide_eq_true_eq, decide_eq_false_iff_not, Bool.not_true, Bool.not_false, beq_iff_eq, Bool.not_eq_true, Bool.not_eq_false, Bool.true_eq_false, Bool.false_eq_true, not_or, Decidable.not_not, ne_eq] at hg0 ⊢; simp_all; done) | (simp_all; done) | (simp_all; omega)) ?_
              refine sdag rfl [0] (fun hg => exc_st h hb.hp k2 nb2 b2 le2) rfl rfl rfl rfl rfl (by kernel_rfl) rfl rfl rfl rfl rfl rfl rfl rfl rfl ⟨(by first | rfl | exact q_obj rfl), True.intro⟩ (.cons (by first | exact argw_same | exact argw_nil | exact argw_tt | exact argw_ff | exact argw_eq rfl) .nil) rfl (by intro hg; have hg0 := hg; (try simp only [Bool.or_eq_true, Bool.and_eq_true, Bool.not_eq_true', Bool.not_eq_false', Bool.or_eq_false_iff, Bool.and_eq_false_imp, decide_eq_true_eq, decide_eq_false_iff_not, Bool.not_true, Bool.not_false, beq_iff_eq, Bool.not_eq_true, Bool.not_eq_false, Bool.true_eq_false, Bool.false_eq_true, not_or, Decidable.not_not, ne_eq] at hg); (try simp only [Int.toNat_natCast, dflt_i, dflt_b, dflt_l, dflt_p, Int.toNat_zero, gt_iff_lt, ge_iff_le] at hg); (repeat' apply And.intro); all_goals first | exact hg0 | exact True.intro | rfl | omega | (simp only [inr]; omega) | (simp only [IntKind.bits]; omega) | (simp only [Bool.or_eq_true, Bool.and_eq_true, Bool.not_eq_true', Bool.not_eq_false', Bool.or_eq_false_iff, Bool.and_eq_false_imp, decide_eq_true_eq, decide_eq_false_iff_not, Bool.not_true, Bool.not_false, beq_iff_eq, Bool.not_eq_true, Bool.not_eq_false, Bool.true_eq_false, Bool.false_eq_true, not_or, Decidable.not_not, ne_eq]; omega) | (simp only [inr, Int.toNat_natCast, dflt_i, dflt_b, dflt_l, dflt_p, Int.toNat_zero, gt_iff_lt, ge_iff_le]; omega) | (simp only [Int.toNat_natCast, dflt_i, dflt_b, dflt_l, dflt_p, Int.toNat_zero, gt_iff_lt, ge_iff_le]; omega) | (simp only [Bool.or_eq_true, Bool.and_eq_true, Bool.not_eq_true', Bool.not_eq_false', Bool.or_eq_false_iff, Bool.and_eq_false_imp, decide_eq_true_eq, decide_eq_false_iff_not, Bool.not_true, Bool.not_false, beq_iff_eq, Bool.not_eq_true, Bool.not_eq_false, Bool.true_eq_false, Bool.false_eq_true, not_or, Decidable.not_not, ne_eq] at hg0 ⊢; simp_all; done) | (simp_all; done) | (simp_all; omega)) ?_
              refine sdg (m := false) tabok rfl rfl rfl rfl rfl (by intro hg; have hg0 := hg; (try simp only [Bool.or_eq_true, Bool.and_eq_true, Bool.not_eq_true', Bool.not_eq_false', Bool.or_eq_false_iff, Bool.and_eq_false_imp, decide_eq_true_eq, decide_eq_false_iff_not, Bool.not_true, Bool.not_false, beq_iff_eq, Bool.not_eq_true, Bool.not_eq_false, Bool.true_eq_false, Bool.false_eq_true, not_or, Decidable.not_not, ne_eq] at hg); (try simp only [Int.toNat_natCast, dflt_i, dflt_b, dflt_l, dflt_p, Int.toNat_zero, gt_iff_lt, ge_iff_le] at hg); (repeat' apply And.intro); all_goals first | exact hg0 | exact True.intro | rfl | omega | (simp only [inr]; omega) | (simp only [IntKind.bits]; omega) | (simp only [Bool.or_eq_true, Bool.and_eq_true, Bool.not_eq_true', Bool.not_eq_false', Bool.or_eq_false_iff, Bool.and_eq_false_imp, decide_eq_true_eq, decide_eq_false_iff_not, Bool.not_true, Bool.not_false, beq_iff_eq, Bool.not_eq_true, Bool.not_eq_false, Bool.true_eq_false, Bool.false_eq_true, not_or, Decidable.not_not, ne_eq]; omega) | (simp only [inr, Int.toNat_natCast, dflt_i, dflt_b, dflt_l, dflt_p, Int.toNat_zero, gt_iff_lt, ge_iff_le]; omega) | (simp only [Int.toNat_natCast, dflt_i, dflt_b, dflt_l, dflt_p, Int.toNat_zero, gt_iff_lt, ge_iff_le]; omega) | (simp only [Bool.or_eq_true, Bool.and_eq_true, Bool.not_eq_true', Bool.not_eq_false', Bool.or_eq_false_iff, Bool.and_eq_false_imp, decide_eq_true_eq, decide_eq_false_iff_not, Bool.not_true, Bool.not_false, beq_iff_eq, Bool.not_eq_true, Bool.not_eq_false, Bool.true_eq_false, Bool.false_eq_true, not_or, Decidable.not_not, ne_eq] at hg0 ⊢; simp_all; done) | (simp_all; done) | (simp_all; omega)) ?_
              refine sd (m := false) tabok rfl rfl rfl (by (repeat' apply And.intro); all_goals first | exact True.intro | rfl | omega | (simp only [inr]; omega) | (simp only [IntKind.bits]; omega) | exact fun h => h | (intro hq; rw [hq]; rfl) | (simp only [Int.toNat_natCast, dflt_i, dflt_b, dflt_l, dflt_p, Int.toNat_zero, gt_iff_lt, ge_iff_le]; omega) | (simp only [ti3, ti4, ti22, ti41]; omega) | (simp [ti3, ti4, ti22, ti41]; omega) | (simp_all; done) | (simp [SV.cellsL, SV.cells]; done) | (simp [SV.cellsL, SV.cells]; omega)) ?_
              refine opd_nil ?_
              refine aw_if rfl (fun c5 => ?_) (fun c5 => ?_)
              · try simp only [Bool.or_eq_true, Bool.and_eq_true, Bool.not_eq_true', Bool.not_eq_false', Bool.or_eq_false_iff, Bool.and_eq_false_imp, decide_eq_true_eq, decide_eq_false_iff_not, Bool.not_true, Bool.not_false, beq_iff_eq, Bool.not_eq_true, Bool.not_eq_false, Bool.true_eq_false, Bool.false_eq_true, not_or, Decidable.not_not, ne_eq] at c5
                try simp only [Int.toNat_natCast, dflt_i, dflt_b, dflt_l, dflt_p, Int.toNat_zero, gt_iff_lt, ge_iff_le] at c5
                refine aw_seq ?_
                refine aw_reg _ (by kernel_rfl) rfl ?_
                refine st (m := false) tabok rfl rfl rfl (by (repeat' apply And.intro); all_goals first | exact True.intro | rfl | omega | (simp only [inr]; omega) | (simp only [IntKind.bits]; omega) | exact fun h => h | (intro hq; rw [hq]; rfl) | (simp only [Int.toNat_natCast, dflt_i, dflt_b, dflt_l, dflt_p, Int.toNat_zero, gt_iff_lt, ge_iff_le]; omega) | (simp only [ti3, ti4, ti22, ti41]; omega) | (simp [ti3, ti4, ti22, ti41]; omega) | (simp_all; done) | (simp [SV.cellsL, SV.cells]; done) | (simp [SV.cellsL, SV.cells]; omega)) ?_
                refine sca [0] (lay_st h hb.hk hb.hp 1 (bk_up hb c5.1).1.hp nb2 b2 le2) rfl rfl (by kernel_rfl) rfl (by kernel_rfl) rfl rfl rfl rfl rfl rfl rfl rfl rfl rfl ⟨(by first | rfl | exact q_obj rfl), True.intro⟩ (.cons (by first | exact argw_same | exact argw_nil | exact argw_tt | exact argw_ff | exact argw_eq rfl) (.cons (by first | exact argw_same | exact argw_nil | exact argw_tt | exact argw_ff | exact argw_eq rfl) .nil)) ?_
                refine ops_nil ?_
                refine aw_goto ?_
                -- leaf GL1.5t
                refine ⟨rfl, (k2, fun j => if j = k2 then p2 k2 + 1 else p2 j, nb2, b2, le2), ?_, ?_, ?_⟩
                · exact goes_to (tm := _) (st := _) [true] rfl rfl ⟨(by first | rfl | exact q_lst (by simp) | exact q_grow (by simp)), True.intro⟩ ⟨(by first | exact sk rfl rfl | exact sk (q_int (by omega)) rfl | exact sk (q_bool (by simp)) rfl | exact sk (q_view rfl rfl rfl (by omega)) rfl | exact sk (q_gview rfl (by simp)) rfl | exact sk (q_nil rfl) rfl | exact sk (q_row (by simp)) rfl | exact sk_g rfl rfl rfl rfl | exact sk_v rfl rfl rfl rfl rfl | exact sk_n rfl), True.intro⟩
                · try dsimp only
                  exact (bk_up hb c5.1).1
                · exact ms_lt ha.hk ha.hp (bk_up hb c5.1).2
              · try simp only [Bool.or_eq_true, Bool.and_eq_true, Bool.not_eq_true', Bool.not_eq_false', Bool.or_eq_false_iff, Bool.and_eq_false_imp, decide_eq_true_eq, decide_eq_false_iff_not, Bool.not_true, Bool.not_false, beq_iff_eq, Bool.not_eq_true, Bool.not_eq_false, Bool.true_eq_false, Bool.false_eq_true, not_or, Decidable.not_not, ne_eq] at c5
                try simp only [Int.toNat_natCast, dflt_i, dflt_b, dflt_l, dflt_p, Int.toNat_zero, gt_iff_lt, ge_iff_le] at c5
                refine aw_skip ?_
                refine aw_seq ?_
                refine aw_regC true 0 11 (by kernel_rfl) (by kernel_rfl) (by kernel_rfl) rfl rfl rfl ?_
                refine opd_nil ?_
                iterate 11 refine sd (m := false) tabok rfl rfl rfl (by (repeat' apply And.intro); all_goals first | exact True.intro | rfl | omega | (simp only [inr]; omega) | (simp only [IntKind.bits]; omega) | exact fun h => h | (intro hq; rw [hq]; rfl) | (simp only [Int.toNat_natCast, dflt_i, dflt_b, dflt_l, dflt_p, Int.toNat_zero, gt_iff_lt, ge_iff_le]; omega) | (simp only [ti3, ti4, ti22, ti41]; omega) | (simp [ti3, ti4, ti22, ti41]; omega) | (simp_all; done) | (simp [SV.cellsL, SV.cells]; done) | (simp [SV.cellsL, SV.cells]; omega)) ?_
                refine opd_nil ?_
                refine sca [0] (lay_st h hb.hk hb.hp (0 - p2 k2) (pl_down h hb.hp k2) nb2 b2 le2) rfl rfl (by kernel_rfl) rfl (by kernel_rfl) rfl rfl rfl rfl rfl rfl rfl rfl rfl rfl ⟨(by first | rfl | exact q_obj rfl), True.intro⟩ (.cons (by first | exact argw_same | exact argw_nil | exact argw_tt | exact argw_ff | exact argw_eq rfl) (.cons (by first | exact argw_same | exact argw_nil | exact argw_tt | exact argw_ff | exact argw_eq rfl) .nil)) ?_
                refine ops_nil ?_
                refine aw_seq ?_
                refine aw_seq ?_
                refine aw_reg _ (by kernel_rfl) rfl ?_
                iterate 5 refine st (m := false) tabok rfl rfl rfl (by (repeat' apply And.intro); all_goals first | exact True.intro | rfl | omega | (simp only [inr]; omega) | (simp only [IntKind.bits]; omega) | exact fun h => h | (intro hq; rw [hq]; rfl) | (simp only [Int.toNat_natCast, dflt_i, dflt_b, dflt_l, dflt_p, Int.toNat_zero, gt_iff_lt, ge_iff_le]; omega) | (simp only [ti3, ti4, ti22, ti41]; omega) | (simp [ti3, ti4, ti22, ti41]; omega) | (simp_all; done) | (simp [SV.cellsL, SV.cells]; done) | (simp [SV.cellsL, SV.cells]; omega)) ?_
                refine ops_nil ?_
                refine aw_if rfl (fun c8 => ?_) (fun c8 => ?_)
                · try simp only [Bool.or_eq_true, Bool.and_eq_true, Bool.not_eq_true', Bool.not_eq_false', Bool.or_eq_false_iff, Bool.and_eq_false_imp, decide_eq_true_eq, decide_eq_false_iff_not, Bool.not_true, Bool.not_false, beq_iff_eq, Bool.not_eq_true, Bool.not_eq_false, Bool.true_eq_false, Bool.false_eq_true, not_or, Decidable.not_not, ne_eq] at c8
                  try simp only [Int.toNat_natCast, dflt_i, dflt_b, dflt_l, dflt_p, Int.toNat_zero, gt_iff_lt, ge_iff_le] at c8
                  refine aw_exit ?_
                  -- leaf ret.5f.8t
                  have e : k2 = 0 := by omega
                  subst e
                  obtain ⟨e1, e2⟩ := bk_end h hb (pick_no c5)
                  obtain ⟨rfl, rfl, rfl⟩ := hu _ _ _ e1
                  exact ret_sn [] (goes_to (tm := _) (st := _) [true] rfl rfl ⟨(by exact congrArg (fun f => (stO m o ov mo 0 f _ _ _).out) e2), True.intro⟩ True.intro) rfl
                · try simp only [Bool.or_eq_true, Bool.and_eq_true, Bool.not_eq_true', Bool.not_eq_false', Bool.or_eq_false_iff, Bool.and_eq_false_imp, decide_eq_true_eq, decide_eq_false_iff_not, Bool.not_true, Bool.not_false, beq_iff_eq, Bool.not_eq_true, Bool.not_eq_false, Bool.true_eq_false, Bool.false_eq_true, not_or, Decidable.not_not, ne_eq] at c8
                  try simp only [Int.toNat_natCast, dflt_i, dflt_b, dflt_l, dflt_p, Int.toNat_zero, gt_iff_lt, ge_iff_le] at c8
                  obtain ⟨k3, rfl⟩ : ∃ k3, k2 = k3 + 1 := ⟨k2 - 1, by omega⟩
                  refine aw_skip ?_
                  refine aw_reg _ (by kernel_rfl) rfl ?_
                  iterate 7 refine st (m := false) tabok rfl rfl rfl (by (repeat' apply And.intro); all_goals first | exact True.intro | rfl | omega | (simp only [inr]; omega) | (simp only [IntKind.bits]; omega) | exact fun h => h | (intro hq; rw [hq]; rfl) | (simp only [Int.toNat_natCast, dflt_i, dflt_b, dflt_l, dflt_p, Int.toNat_zero, gt_iff_lt, ge_iff_le]; omega) | (simp only [ti3, ti4, ti22, ti41]; omega) | (simp [ti3, ti4, ti22, ti41]; omega) | (simp_all; done) | (simp [SV.cellsL, SV.cells]; done) | (simp [SV.cellsL, SV.cells]; omega)) ?_
                  refine st0 (m := false) tabok rfl rfl rfl (by (repeat' apply And.intro); all_goals first | exact True.intro | rfl | omega | (simp only [inr]; omega) | (simp only [IntKind.bits]; omega) | exact fun h => h | (intro hq; rw [hq]; rfl) | (simp only [Int.toNat_natCast, dflt_i, dflt_b, dflt_l, dflt_p, Int.toNat_zero, gt_iff_lt, ge_iff_le]; omega) | (simp only [ti3, ti4, ti22, ti41]; omega) | (simp [ti3, ti4, ti22, ti41]; omega) | (simp_all; done) | (simp [SV.cellsL, SV.cells]; done) | (simp [SV.cellsL, SV.cells]; omega)) ?_
                  refine ops_nil ?_
                  -- leaf L1.5f.8f
                  refine Exists.intro ((k3, fun j => if j = k3 + 1 then p2 (k3 + 1) + (0 - p2 (k3 + 1)) else p2 j, nb2, b2, le2)) ⟨?_, ?_, ?_⟩
                  · exact goes_to (tm := _) (st := _) [true] rfl rfl ⟨(by exact congrArg (fun z => (schZ m o ov mo z _ _ _ nb2 b2 le2).out) (show ((k3 + 1 : Nat) : Int) - 1 = (k3 : Nat) by omega)), True.intro⟩ ⟨(by first | exact sk rfl rfl | exact sk (q_int (by omega)) rfl | exact sk (q_bool (by simp)) rfl | exact sk (q_view rfl rfl rfl (by omega)) rfl | exact sk (q_gview rfl (by simp)) rfl | exact sk (q_nil rfl) rfl | exact sk (q_row (by simp)) rfl | exact sk_g rfl rfl rfl rfl | exact sk_v rfl rfl rfl rfl rfl | exact sk_n rfl), True.intro⟩
                  · try dsimp only
                    exact bk_down h hb (pick_no c5)
                  · (try dsimp only); omega
      · try simp only [Bool.or_eq_true, Bool.and_eq_true, Bool.not_eq_true', Bool.not_eq_false', Bool.or_eq_false_iff, Bool.and_eq_false_imp, decide_eq_true_eq, decide_eq_false_iff_not, Bool.not_true, Bool.not_false, beq_iff_eq, Bool.not_eq_true, Bool.not_eq_false, Bool.true_eq_false, Bool.false_eq_true, not_or, Decidable.not_not, ne_eq] at c0
        try simp only [Int.toNat_natCast, dflt_i, dflt_b, dflt_l, dflt_p, Int.toNat_zero, gt_iff_lt, ge_iff_le] at c0
        refine aw_exit ?_
        refine aw_seq ?_
        refine aw_label ?_
        refine aw_block ?_
        refine aw_loop (X := (Nat) × (Nat → Int) × (Bool) × (List Int) × (Int)) (fun (x : (Nat) × (Nat → Int) × (Bool) × (List Int) × (Int)) => match x with | (k2, p2, nb2, b2, le2) => outT (look [(0, .ptr 0 0 0)])) (fun (x : (Nat) × (Nat → Int) × (Bool) × (List Int) × (Int)) => match x with | (k2, p2, nb2, b2, le2) => outS [stO m o ov mo k2 p2 nb2 b2 le2]) (fun (x : (Nat) × (Nat → Int) × (Bool) × (List Int) × (Int)) => match x with | (k2, p2, nb2, b2, le2) => (Bk m o ov mo (rank m mo k p) k2 p2 nb2 b2 le2)) (fun (x : (Nat) × (Nat → Int) × (Bool) × (List Int) × (Int)) => match x with | (k2, p2, nb2, b2, le2) => k2) ((k, p, nb', b', le')) ?_ ?_ ?_
        -- leaf L1:entry.0f
        · exact goes_to (tm := _) (st := _) [true] rfl rfl ⟨(by first | rfl | exact q_lst (by simp) | exact q_grow (by simp)), True.intro⟩ ⟨(by first | exact sk rfl rfl | exact sk (q_int (by omega)) rfl | exact sk (q_bool (by simp)) rfl | exact sk (q_view rfl rfl rfl (by omega)) rfl | exact sk (q_gview rfl (by simp)) rfl | exact sk (q_nil rfl) rfl | exact sk (q_row (by simp)) rfl | exact sk_g rfl rfl rfl rfl | exact sk_v rfl rfl rfl rfl rfl | exact sk_n rfl), True.intro⟩
        · exact ag_exc h ha c0
        · skip
          rintro ⟨k2, p2, nb2, b2, le2⟩ hb
          change awpB _ _ _ _ _ (outT (look [(0, .ptr 0 0 0)])) (outS [stO m o ov mo k2 p2 nb2 b2 le2])
          have g2 := hb.hk
          have g3 := hb.hp k2 g2
          refine aw_block ?_
          refine aw_seq ?_
          refine aw_seq ?_
          refine aw_regD false _ (by kernel_rfl) (by kernel_rfl) (by kernel_rfl) rfl ?_
          iterate 15 refine sd (m := false) tabok rfl rfl rfl (by (repeat' apply And.intro); all_goals first | exact True.intro | rfl | omega | (simp only [inr]; omega) | (simp only [IntKind.bits]; omega) | exact fun h => h | (intro hq; rw [hq]; rfl) | (simp only [Int.toNat_natCast, dflt_i, dflt_b, dflt_l, dflt_p, Int.toNat_zero, gt_iff_lt, ge_iff_le]; omega) | (simp only [ti3, ti4, ti22, ti41]; omega) | (simp [ti3, ti4, ti22, ti41]; omega) | (simp_all; done) | (simp [SV.cellsL, SV.cells]; done) | (simp [SV.cellsL, SV.cells]; omega)) ?_
          refine sdg (m := false) tabok rfl rfl rfl rfl rfl (by intro hg; have hg0 := hg; (try simp only [Bool.or_eq_true, Bool.and_eq_true, Bool.not_eq_true', Bool.not_eq_false', Bool.or_eq_false_iff, Bool.and_eq_false_imp, decide_eq_true_eq, decide_eq_false_iff_not, Bool.not_true, Bool.not_false, beq_iff_eq, Bool.not_eq_true, Bool.not_eq_false, Bool.true_eq_false, Bool.false_eq_true, not_or, Decidable.not_not, ne_eq] at hg); (try simp only [Int.toNat_natCast, dflt_i, dflt_b, dflt_l, dflt_p, Int.toNat_zero, gt_iff_lt, ge_iff_le] at hg); (repeat' apply And.intro); all_goals first | exact hg0 | exact True.intro | rfl | omega | (simp only [inr]; omega) | (simp only [IntKind.bits]; omega) | (simp only [Bool.or_eq_true, Bool.and_eq_true, Bool.not_eq_true', Bool.not_eq_false', Bool.or_eq_false_iff, Bool.and_eq_false_imp, decide_eq_true_eq, decide_eq_false_iff_not, Bool.not_true, Bool.not_false, beq_iff_eq, Bool.not_eq_true, Bool.not_eq_false, Bool.true_eq_false, Bool.false_eq_true, not_or, Decidable.not_not, ne_eq]; omega) | (simp only [inr, Int.toNat_natCast, dflt_i, dflt_b, dflt_l, dflt_p, Int.toNat_zero, gt_iff_lt, ge_iff_le]; omega) | (simp only [Int.toNat_natCast, dflt_i, dflt_b, dflt_l, dflt_p, Int.toNat_zero, gt_iff_lt, ge_iff_le]; omega) | (simp only [Bool.or_eq_true, Bool.and_eq_true, Bool.not_eq_true', Bool.not_eq_false', Bool.or_eq_false_iff, Bool.and_eq_false_imp, decide_eq_true_eq, decide_eq_false_iff_not, Bool.not_true, Bool.not_false, beq_iff_eq, Bool.not_eq_true, Bool.not_eq_false, Bool.true_eq_false, Bool.false_eq_true, not_or, Decidable.not_not, ne_eq] at hg0 ⊢; simp_all; done) | (simp_all; done) | (simp_all; omega)) ?_
          refine sdag rfl [0] (fun hg => exc_st h hb.hp k2 nb2 b2 le2) rfl rfl rfl rfl rfl (by kernel_rfl) rfl rfl rfl rfl rfl rfl rfl rfl rfl ⟨(by first | rfl | exact q_obj rfl), True.intro⟩ (.cons (by first | exact argw_same | exact argw_nil | exact argw_tt | exact argw_ff | exact argw_eq rfl) .nil) rfl (by intro hg; have hg0 := hg; (try simp only [Bool.or_eq_true, Bool.and_eq_true, Bool.not_eq_true', Bool.not_eq_false', Bool.or_eq_false_iff, Bool.and_eq_false_imp, decide_eq_true_eq, decide_eq_false_iff_not, Bool.not_true, Bool.not_false, beq_iff_eq, Bool.not_eq_true, Bool.not_eq_false, Bool.true_eq_false, Bool.false_eq_true, not_or, Decidable.not_not, ne_eq] at hg); (try simp only [Int.toNat_natCast, dflt_i, dflt_b, dflt_l, dflt_p, Int.toNat_zero, gt_iff_lt, ge_iff_le] at hg); (repeat' apply And.intro); all_goals first | exact hg0 | exact True.intro | rfl | omega | (simp only [inr]; omega) | (simp only [IntKind.bits]; omega) | (simp only [Bool.or_eq_true, Bool.and_eq_true, Bool.not_eq_true', Bool.not_eq_false', Bool.or_eq_false_iff, Bool.and_eq_false_imp, decide_eq_true_eq, decide_eq_false_iff_not, Bool.not_true, Bool.not_false, beq_iff_eq, Bool.not_eq_true, Bool.not_eq_false, Bool.true_eq_false, Bool.false_eq_true, not_or, Decidable.not_not, ne_eq]; omega) | (simp only [inr, Int.toNat_natCast, dflt_i, dflt_b, dflt_l, dflt_p, Int.toNat_zero, gt_iff_lt, ge_iff_le]; omega) | (simp only [Int.toNat_natCast, dflt_i, dflt_b, dflt_l, dflt_p, Int.toNat_zero, gt_iff_lt, ge_iff_le]; omega) | (simp only [Bool.or_eq_true, Bool.and_eq_true, Bool.not_eq_true', Bool.not_eq_false', Bool.or_eq_false_iff, Bool.and_eq_false_imp, decide_eq_true_eq, decide_eq_false_iff_not, Bool.not_true, Bool.not_false, beq_iff_eq, Bool.not_eq_true, Bool.not_eq_false, Bool.true_eq_false, Bool.false_eq_true, not_or, Decidable.not_not, ne_eq] at hg0 ⊢; simp_all; done) | (simp_all; done) | (simp_all; omega)) ?_
          refine sdg (m := false) tabok rfl rfl rfl rfl rfl (by intro hg; have hg0 := hg; (try simp only [Bool.or_eq_true, Bool.and_eq_true, Bool.not_eq_true', Bool.not_eq_false', Bool.or_eq_false_iff, Bool.and_eq_false_imp, decide_eq_true_eq, decide_eq_false_iff_not, Bool.not_true, Bool.not_false, beq_iff_eq, Bool.not_eq_true, Bool.not_eq_false, Bool.true_eq_false, Bool.false_eq_true, not_or, Decidable.not_not, ne_eq] at hg); (try simp only [Int.toNat_natCast, dflt_i, dflt_b, dflt_l, dflt_p, Int.toNat_zero, gt_iff_lt, ge_iff_le] at hg); (repeat' apply And.intro); all_goals first | exact hg0 | exact True.intro | rfl | omega | (simp only [inr]; omega) | (simp only [IntKind.bits]; omega) | (simp only [Bool.or_eq_true, Bool.and_eq_true, Bool.not_eq_true', Bool.not_eq_false', Bool.or_eq_false_iff, Bool.and_eq_false_imp, decide_eq_true_eq, decide_eq_false_iff_not, Bool.not_true, Bool.not_false, beq_iff_eq, Bool.not_eq_true, Bool.not_eq_false, Bool.true_eq_false, Bool.false_eq_true, not_or, Decidable.not_not, ne_eq]; omega) | (simp only [inr, Int.toNat_natCast, dflt_i, dflt_b, dflt_l, dflt_p, Int.toNat_zero, gt_iff_lt, ge_iff_le]; omega) | (simp only [Int.toNat_natCast, dflt_i, dflt_b, dflt_l, dflt_p, Int.toNat_zero, gt_iff_lt, ge_iff_le]; omega) | (simp only [Bool.or_eq_true, Bool.and_eq_true, Bool.not_eq_true', Bool.not_eq_false', Bool.or_eq_false_iff, Bool.and_eq_false_imp, decide_eq_true_eq, decide_eq_false_iff_not, Bool.not_true, Bool.not_false, beq_iff_eq, Bool.not_eq_true, Bool.not_eq_false, Bool.true_eq_false, Bool.false_eq_true, not_or, Decidable.not_not, ne_eq] at hg0 ⊢; simp_all; done) | (simp_all; done) | (simp_all; omega)) ?_
          refine sd (m := false) tabok rfl rfl rfl (by (repeat' apply And.intro); all_goals first | exact True.intro | rfl | omega | (simp only [inr]; omega) | (simp only [IntKind.bits]; omega) | exact fun h => h | (intro hq; rw [hq]; rfl) | (simp only [Int.toNat_natCast, dflt_i, dflt_b, dflt_l, dflt_p, Int.toNat_zero, gt_iff_lt, ge_iff_le]; omega) | (simp only [ti3, ti4, ti22, ti41]; omega) | (simp [ti3, ti4, ti22, ti41]; omega) | (simp_all; done) | (simp [SV.cellsL, SV.cells]; done) | (simp [SV.cellsL, SV.cells]; omega)) ?_
          refine opd_nil ?_
          refine aw_if rfl (fun c5 => ?_) (fun c5 => ?_)
          · try simp only [Bool.or_eq_true, Bool.and_eq_true, Bool.not_eq_true', Bool.not_eq_false', Bool.or_eq_false_iff, Bool.and_eq_false_imp, decide_eq_true_eq, decide_eq_false_iff_not, Bool.not_true, Bool.not_false, beq_iff_eq, Bool.not_eq_true, Bool.not_eq_false, Bool.true_eq_false, Bool.false_eq_true, not_or, Decidable.not_not, ne_eq] at c5
            try simp only [Int.toNat_natCast, dflt_i, dflt_b, dflt_l, dflt_p, Int.toNat_zero, gt_iff_lt, ge_iff_le] at c5
            refine aw_seq ?_
            refine aw_reg _ (by kernel_rfl) rfl ?_
            refine st (m := false) tabok rfl rfl rfl (by (repeat' apply And.intro); all_goals first | exact True.intro | rfl | omega | (simp only [inr]; omega) | (simp only [IntKind.bits]; omega) | exact fun h => h | (intro hq; rw [hq]; rfl) | (simp only [Int.toNat_natCast, dflt_i, dflt_b, dflt_l, dflt_p, Int.toNat_zero, gt_iff_lt, ge_iff_le]; omega) | (simp only [ti3, ti4, ti22, ti41]; omega) | (simp [ti3, ti4, ti22, ti41]; omega) | (simp_all; done) | (simp [SV.cellsL, SV.cells]; done) | (simp [SV.cellsL, SV.cells]; omega)) ?_
            refine sca [0] (lay_st h hb.hk hb.hp 1 (bk_up hb c5.1).1.hp nb2 b2 le2) rfl rfl (by kernel_rfl) rfl (by kernel_rfl) rfl rfl rfl rfl rfl rfl rfl rfl rfl rfl ⟨(by first | rfl | exact q_obj rfl), True.intro⟩ (.cons (by first | exact argw_same | exact argw_nil | exact argw_tt | exact argw_ff | exact argw_eq rfl) (.cons (by first | exact argw_same | exact argw_nil | exact argw_tt | exact argw_ff | exact argw_eq rfl) .nil)) ?_
            refine ops_nil ?_
            refine aw_goto ?_
            -- leaf GL1.5t
            refine ⟨rfl, (k2, fun j => if j = k2 then p2 k2 + 1 else p2 j, nb2, b2, le2), ?_, ?_, ?_⟩
            · exact goes_to (tm := _) (st := _) [true] rfl rfl ⟨(by first | rfl | exact q_lst (by simp) | exact q_grow (by simp)), True.intro⟩ ⟨(by first | exact sk rfl rfl | exact sk (q_int (by omega)) rfl | exact sk (q_bool (by simp)) rfl | exact sk (q_view rfl rfl rfl (by omega)) rfl | exact sk (q_gview rfl (by simp)) rfl | exact sk (q_nil rfl) rfl | exact sk (q_row (by simp)) rfl | exact sk_g rfl rfl rfl rfl | exact sk_v rfl rfl rfl rfl rfl | exact sk_n rfl), True.intro⟩
            · try dsimp only
              exact (bk_up hb c5.1).1
            · exact ms_lt ha.hk ha.hp (bk_up hb c5.1).2
          · try simp only [Bool.or_eq_true, Bool.and_eq_true, Bool.not_eq_true', Bool.not_eq_false', Bool.or_eq_false_iff, Bool.and_eq_false_imp, decide_eq_true_eq, decide_eq_false_iff_not, Bool.not_true, Bool.not_false, beq_iff_eq, Bool.not_eq_true, Bool.not_eq_false, Bool.true_eq_false, Bool.false_eq_true, not_or, Decidable.not_not, ne_eq] at c5
            try simp only [Int.toNat_natCast, dflt_i, dflt_b, dflt_l, dflt_p, Int.toNat_zero, gt_iff_lt, ge_iff_le] at c5
            refine aw_skip ?_
            refine aw_seq ?_
            refine aw_regC true 0 11 (by kernel_rfl) (by kernel_rfl) (by kernel_rfl) rfl rfl rfl ?_
            refine opd_nil ?_
            iterate 11 refine sd (m := false) tabok rfl rfl rfl (by (repeat' apply And.intro); all_goals first | exact True.intro | rfl | omega | (simp only [inr]; omega) | (simp only [IntKind.bits]; omega) | exact fun h => h | (intro hq; rw [hq]; rfl) | (simp only [Int.toNat_natCast, dflt_i, dflt_b, dflt_l, dflt_p, Int.toNat_zero, gt_iff_lt, ge_iff_le]; omega) | (simp only [ti3, ti4, ti22, ti41]; omega) | (simp [ti3, ti4, ti22, ti41]; omega) | (simp_all; done) | (simp [SV.cellsL, SV.cells]; done) | (simp [SV.cellsL, SV.cells]; omega)) ?_
            refine opd_nil ?_
            refine sca [0] (lay_st h hb.hk hb.hp (0 - p2 k2) (pl_down h hb.hp k2) nb2 b2 le2) rfl rfl (by kernel_rfl) rfl (by kernel_rfl) rfl rfl rfl rfl rfl rfl rfl rfl rfl rfl ⟨(by first | rfl | exact q_obj rfl), True.intro⟩ (.cons (by first | exact argw_same | exact argw_nil | exact argw_tt | exact argw_ff | exact argw_eq rfl) (.cons (by first | exact argw_same | exact argw_nil | exact argw_tt | exact argw_ff | exact argw_eq rfl) .nil)) ?_
            refine ops_nil ?_
            refine aw_seq ?_
            refine aw_seq ?_
            refine aw_reg _ (by kernel_rfl) rfl ?_
            iterate 5 refine st (m := false) tabok rfl rfl rfl (by (repeat' apply And.intro); all_goals first | exact True.intro | rfl | omega | (simp only [inr]; omega) | (simp only [IntKind.bits]; omega) | exact fun h => h | (intro hq; rw [hq]; rfl) | (simp only [Int.toNat_natCast, dflt_i, dflt_b, dflt_l, dflt_p, Int.toNat_zero, gt_iff_lt, ge_iff_le]; omega) | (simp only [ti3, ti4, ti22, ti41]; omega) | (simp [ti3, ti4, ti22, ti41]; omega) | (simp_all; done) | (simp [SV.cellsL, SV.cells]; done) | (simp [SV.cellsL, SV.cells]; omega)) ?_
            refine ops_nil ?_
            refine aw_if rfl (fun c8 => ?_) (fun c8 => ?_)
            · try simp only [Bool.or_eq_true, Bool.and_eq_true, Bool.not_eq_true', Bool.not_eq_false', Bool.or_eq_false_iff, Bool.and_eq_false_imp, decide_eq_true_eq, decide_eq_false_iff_not, Bool.not_true, Bool.not_false, beq_iff_eq, Bool.not_eq_true, Bool.not_eq_false, Bool.true_eq_false, Bool.false_eq_true, not_or, Decidable.not_not, ne_eq] at c8
              try simp only [Int.toNat_natCast, dflt_i, dflt_b, dflt_l, dflt_p, Int.toNat_zero, gt_iff_lt, ge_iff_le] at c8
              refine aw_exit ?_
              -- leaf ret.5f.8t
              have e : k2 = 0 := by omega
              subst e
              obtain ⟨e1, e2⟩ := bk_end h hb (pick_no c5)
              obtain ⟨rfl, rfl, rfl⟩ := hu _ _ _ e1
              exact ret_sn [] (goes_to (tm := _) (st := _) [true] rfl rfl ⟨(by exact congrArg (fun f => (stO m o ov mo 0 f _ _ _).out) e2), True.intro⟩ True.intro) rfl
            · try simp only [Bool.or_eq_true, Bool.and_eq_true, Bool.not_eq_true', Bool.not_eq_false', Bool.or_eq_false_iff, Bool.and_eq_false_imp, decide_eq_true_eq, decide_eq_false_iff_not, Bool.not_true, Bool.not_false, beq_iff_eq, Bool.not_eq_true, Bool.not_eq_false, Bool.true_eq_false, Bool.false_eq_true, not_or, Decidable.not_not, ne_eq] at c8
              try simp only [Int.toNat_natCast, dflt_i, dflt_b, dflt_l, dflt_p, Int.toNat_zero, gt_iff_lt, ge_iff_le] at c8
              obtain ⟨k3, rfl⟩ : ∃ k3, k2 = k3 + 1 := ⟨k2 - 1, by omega⟩
              refine aw_skip ?_
              refine aw_reg _ (by kernel_rfl) rfl ?_
              iterate 7 refine st (m := false) tabok rfl rfl rfl (by (repeat' apply And.intro); all_goals first | exact True.intro | rfl | omega | (simp only [inr]; omega) | (simp only [IntKind.bits]; omega) | exact fun h => h | (intro hq; rw [hq]; rfl) | (simp only [Int.toNat_natCast, dflt_i, dflt_b, dflt_l, dflt_p, Int.toNat_zero, gt_iff_lt, ge_iff_le]; omega) | (simp only [ti3, ti4, ti22, ti41]; omega) | (simp [ti3, ti4, ti22, ti41]; omega) | (simp_all; done) | (simp [SV.cellsL, SV.cells]; done) | (simp [SV.cellsL, SV.cells]; omega)) ?_
              refine st0 (m := false) tabok rfl rfl rfl (by (repeat' apply And.intro); all_goals first | exact True.intro | rfl | omega | (simp only [inr]; omega) | (simp only [IntKind.bits]; omega) | exact fun h => h | (intro hq; rw [hq]; rfl) | (simp only [Int.toNat_natCast, dflt_i, dflt_b, dflt_l, dflt_p, Int.toNat_zero, gt_iff_lt, ge_iff_le]; omega) | (simp only [ti3, ti4, ti22, ti41]; omega) | (simp [ti3, ti4, ti22, ti41]; omega) | (simp_all; done) | (simp [SV.cellsL, SV.cells]; done) | (simp [SV.cellsL, SV.cells]; omega)) ?_
              refine ops_nil ?_
              -- leaf L1.5f.8f
              refine Exists.intro ((k3, fun j => if j = k3 + 1 then p2 (k3 + 1) + (0 - p2 (k3 + 1)) else p2 j, nb2, b2, le2)) ⟨?_, ?_, ?_⟩
              · exact goes_to (tm := _) (st := _) [true] rfl rfl ⟨(by exact congrArg (fun z => (schZ m o ov mo z _ _ _ nb2 b2 le2).out) (show ((k3 + 1 : Nat) : Int) - 1 = (k3 : Nat) by omega)), True.intro⟩ ⟨(by first | exact sk rfl rfl | exact sk (q_int (by omega)) rfl | exact sk (q_bool (by simp)) rfl | exact sk (q_view rfl rfl rfl (by omega)) rfl | exact sk (q_gview rfl (by simp)) rfl | exact sk (q_nil rfl) rfl | exact sk (q_row (by simp)) rfl | exact sk_g rfl rfl rfl rfl | exact sk_v rfl rfl rfl rfl rfl | exact sk_n rfl), True.intro⟩
              · try dsimp only
                exact bk_down h hb (pick_no c5)
              · (try dsimp only); omega
end
end Go.Sim
end
