/- A part of the proof: the walks of this law's functions. -/
import Derived.Test.YtgobcpfcekgcfaaD5
namespace Go.Sim
open Go Go.Proofs
set_option maxRecDepth 4000
set_option autoImplicit false
set_option linter.unusedSimpArgs false
def pB : Nat → Int
  | 0 => 6364136223846793005
  | j + 1 => pB j * pB j
def pP : Nat → Int
  | 0 => 1442695040888963407
  | j + 1 => pP j * pB j + pP j

theorem aff_twice (b p x : Int) : aff b p (aff b p x) = aff (b * b) (p * b + p) x := by
  unfold aff
  have e2 : ((x * b + p) % 18446744073709551616 * b + p) % 18446744073709551616 = ((x * b + p) * b + p) % 18446744073709551616 := by
    rw [Int.add_emod, Int.mul_emod, Int.emod_emod, ← Int.mul_emod, ← Int.add_emod]
  rw [e2, Int.add_mul, Int.mul_assoc]
  congr 1
  generalize x * (b * b) = u
  generalize p * b = v
  omega

theorem rep_pow : ∀ (j : Nat) (d : Int), rep nx (2 ^ j) d = aff (pB j) (pP j) d
  | 0, d => rfl
  | j + 1, d => by
    have e : (2 : Nat) ^ (j + 1) = 2 ^ j + 2 ^ j := by rw [Nat.pow_succ]; omega
    rw [e, rep_add, rep_pow j, rep_pow j, aff_twice]
    rfl

theorem pB_form : ∀ j : Nat, ∃ u : Int, pB j = 1 + 2 ^ (j + 2) * u
  | 0 => ⟨1591034055961698251, by decide⟩
  | j + 1 => by
    obtain ⟨u, h⟩ := pB_form j
    refine ⟨u + 2 ^ (j + 1) * (u * u), ?_⟩
    show pB j * pB j = _
    rw [h]
    have e3 : (2 : Int) ^ (j + 1 + 2) = 2 * 2 ^ (j + 2) := by rw [show j + 1 + 2 = (j + 2) + 1 by omega, Int.pow_succ]; omega
    have e2 : (2 : Int) ^ (j + 2) = 2 * 2 ^ (j + 1) := by rw [show j + 2 = (j + 1) + 1 by omega, Int.pow_succ]; omega
    rw [e3, e2]
    generalize (2 : Int) ^ (j + 1) = q
    grind

theorem pP_form : ∀ j : Nat, ∃ v : Int, pP j = 2 ^ j * (2 * v + 1)
  | 0 => ⟨721347520444481703, by decide⟩
  | j + 1 => by
    obtain ⟨v, h⟩ := pP_form j
    obtain ⟨u, hu⟩ := pB_form j
    refine ⟨v + 2 ^ j * (u * (2 * v + 1)), ?_⟩
    show pP j * pB j + pP j = _
    rw [h, hu]
    have e2 : (2 : Int) ^ (j + 2) = 4 * 2 ^ j := by rw [Int.pow_succ, Int.pow_succ]; omega
    have e1 : (2 : Int) ^ (j + 1) = 2 * 2 ^ j := by rw [Int.pow_succ]; omega
    rw [e2, e1]
    generalize (2 : Int) ^ j = q
    grind

/-- The state after 2^j calls. -/
theorem sk_pow (j : Nat) (d : Int) : sk d (2 ^ j) = (d * pB j + pP j) % 18446744073709551616 := by
  have e : ((2 : Int) ^ j).toNat = 2 ^ j := by
    rw [show (2 : Int) ^ j = ((2 ^ j : Nat) : Int) by simp, Int.toNat_natCast]
  rw [sk, e, rep_pow]
  rfl

theorem dvd_big (n : Nat) (h : n ≤ 64) : (2 : Int) ^ n ∣ 18446744073709551616 := by
  refine ⟨2 ^ (64 - n), ?_⟩
  rw [← Int.pow_add, show n + (64 - n) = 64 by omega]
  decide

theorem diff_mod (j n : Nat) (d : Int) (hn : n ≤ 64) : IntKind.wrap .u64 (sk d (2 ^ j) - d) % 2 ^ n = (d * (pB j - 1) + pP j) % 2 ^ n := by
  rw [IntKind.wrap_u64, sk_pow, Int.emod_emod_of_dvd _ (dvd_big n hn)]
  have e : (d * pB j + pP j) % 18446744073709551616 - d = (d * (pB j - 1) + pP j) + (-((d * pB j + pP j) / 18446744073709551616)) * 18446744073709551616 := by
    have := Int.mul_ediv_add_emod (d * pB j + pP j) 18446744073709551616
    rw [Int.mul_sub, Int.mul_one]
    generalize d * pB j = x at *
    omega
  rw [e]
  obtain ⟨c, hc⟩ := dvd_big n hn
  rw [hc, Int.mul_comm (2 ^ n) c, ← Int.mul_assoc, Int.add_mul_emod_self_right]

theorem wrapu_nonneg (x : Int) : 0 ≤ IntKind.wrap .u64 x := by rw [IntKind.wrap_u64]; omega

theorem period1 (n : Nat) (d : Int) (hn : n ≤ 62) : (IntKind.wrap .u64 (sk d (2 ^ n) - d)).tmod (2 ^ n) = 0 := by
  rw [Int.tmod_eq_emod_of_nonneg (wrapu_nonneg _), diff_mod n n d (by omega)]
  obtain ⟨u, hu⟩ := pB_form n
  obtain ⟨v, hv⟩ := pP_form n
  have e : d * (pB n - 1) + pP n = (4 * u * d + 2 * v + 1) * 2 ^ n := by
    rw [hu, hv, show n + 2 = n + 1 + 1 by omega, Int.pow_succ, Int.pow_succ]
    grind
  rw [e, Int.mul_emod_left]

theorem period2 (j : Nat) (d : Int) (hn : j + 1 ≤ 62) : (IntKind.wrap .u64 (sk d (2 ^ j) - d)).tmod (2 ^ (j + 1)) = 2 ^ j := by
  rw [Int.tmod_eq_emod_of_nonneg (wrapu_nonneg _), diff_mod j (j + 1) d (by omega)]
  obtain ⟨u, hu⟩ := pB_form j
  obtain ⟨v, hv⟩ := pP_form j
  have e : d * (pB j - 1) + pP j = 2 ^ j + (2 * u * d + v) * 2 ^ (j + 1) := by
    rw [hu, hv, show j + 2 = j + 1 + 1 by omega, Int.pow_succ, Int.pow_succ]
    grind
  have hp : (0 : Int) < 2 ^ j := Int.pow_pos (by omega)
  rw [e, Int.add_mul_emod_self_right, Int.emod_eq_of_lt (by omega) (by rw [Int.pow_succ]; omega)]

theorem drawsPeriod_ok (d k : Int) (hk : 0 ≤ k ∧ k < 256) : CCall Try.prog 8 [.c (.int .u64 d), .c (.int .u8 k)] (.c (.bool true)) := by
  refine ccall_intro Try.func8 Try.ntmps8 rfl (Nat.le_of_ble_eq_true rfl) (by simp [Closed.c]) ?_
  refine awp_seq ?_
  refine awp_reg _ (by kernel_rfl) rfl ?_
  refine ops_prim rfl (by simp (disch := omega) only [evalPrim, ↓ev_tmp, ↓ev_const, ↓put_at, ↓put_none, ↓reduceIte, Nat.reduceEqDiff, argT_zero, argT_succ, ofConst, ofValue]; try rfl) ?_
  refine ops_nil ?_
  dsimp only [Then, InBlock, ↓reduceIte]
  refine awp_seq (awp_seq ?_)
  refine awp_cut (fun T S => T 0 = .c (.int .u64 d) ∧ T 1 = .c (.int .u8 k) ∧ T 11 = .c (.bool (decide (k < 1 ∨ k > 62)))) ?_ ?_
  · by_cases h1 : k < 1
    · have e1 : decide (k < 1) = true := decide_eq_true h1
      have e : decide (k < 1 ∨ k > 62) = true := decide_eq_true (.inl h1)
      refine awp_reg _ (by kernel_rfl) rfl ?_
      refine ops_prim rfl (by simp (disch := omega) only [evalPrim, ↓ev_tmp, ↓ev_const, ↓put_at, ↓put_none, ↓reduceIte, Nat.reduceEqDiff, argT_zero, argT_succ, e1]; try rfl) ?_
      refine ops_prim rfl (by simp (disch := omega) only [evalPrim, ↓ev_tmp, ↓ev_const, ↓put_at, ↓put_none, ↓reduceIte, Nat.reduceEqDiff, argT_zero, argT_succ, tvBinT, tvBinT.nil2, tvBinT.ptr2, tvBin, intBin, ofConst, ofValue, Option.map_some, reduceCtorEq, if_true, if_false, e1]; try rfl) ?_
      refine ops_prim rfl (by simp (disch := omega) only [evalPrim, ↓ev_tmp, ↓ev_const, ↓put_at, ↓put_none, ↓reduceIte, Nat.reduceEqDiff, argT_zero, argT_succ, e1]; try rfl) ?_
      iterate 2 refine ops_not 8 rfl rfl (by simp (disch := omega) only [evalPrim, ↓ev_tmp, ↓ev_const, ↓put_at, ↓put_none, ↓reduceIte, Nat.reduceEqDiff, argT_zero, argT_succ, Option.map_some, reduceCtorEq, if_true, if_false, beq_self_eq_true, bne_self_eq_false, Bool.not_true, Bool.not_false, e1]; try rfl) ?_
      refine ops_prim rfl (by simp (disch := omega) only [evalPrim, ↓ev_tmp, ↓ev_const, ↓put_at, ↓put_none, ↓reduceIte, Nat.reduceEqDiff, argT_zero, argT_succ, cond_true, cond_false, ofConst, ofValue, e1]; try rfl) ?_
      refine ops_nil ?_
      dsimp only [Then, InBlock, ↓reduceIte]
      rw [e]
      exact ⟨rfl, rfl, rfl⟩
    have e1 : decide (k < 1) = false := decide_eq_false h1
    have e : decide (k < 1 ∨ k > 62) = decide (k > 62) := by simp [h1]
    refine awp_reg _ (by kernel_rfl) rfl ?_
    refine ops_prim rfl (by simp (disch := omega) only [evalPrim, ↓ev_tmp, ↓ev_const, ↓put_at, ↓put_none, ↓reduceIte, Nat.reduceEqDiff, argT_zero, argT_succ, e1]; try rfl) ?_
    refine ops_prim rfl (by simp (disch := omega) only [evalPrim, ↓ev_tmp, ↓ev_const, ↓put_at, ↓put_none, ↓reduceIte, Nat.reduceEqDiff, argT_zero, argT_succ, tvBinT, tvBinT.nil2, tvBinT.ptr2, tvBin, intBin, ofConst, ofValue, Option.map_some, reduceCtorEq, if_true, if_false, e1]; try rfl) ?_
    refine ops_prim rfl (by simp (disch := omega) only [evalPrim, ↓ev_tmp, ↓ev_const, ↓put_at, ↓put_none, ↓reduceIte, Nat.reduceEqDiff, argT_zero, argT_succ, e1]; try rfl) ?_
    refine ops_yes 8 rfl rfl (by simp (disch := omega) only [evalPrim, ↓ev_tmp, ↓ev_const, ↓put_at, ↓put_none, ↓reduceIte, Nat.reduceEqDiff, argT_zero, argT_succ, Option.map_some, reduceCtorEq, if_true, if_false, beq_self_eq_true, bne_self_eq_false, Bool.not_true, Bool.not_false, e1]; try rfl) ?_
    refine ops_prim rfl (by simp (disch := omega) only [evalPrim, ↓ev_tmp, ↓ev_const, ↓put_at, ↓put_none, ↓reduceIte, Nat.reduceEqDiff, argT_zero, argT_succ, e1]; try rfl) ?_
    refine ops_yes 8 rfl rfl (by simp (disch := omega) only [evalPrim, ↓ev_tmp, ↓ev_const, ↓put_at, ↓put_none, ↓reduceIte, Nat.reduceEqDiff, argT_zero, argT_succ, Option.map_some, reduceCtorEq, if_true, if_false, beq_self_eq_true, bne_self_eq_false, Bool.not_true, Bool.not_false, e1]; try rfl) ?_
    refine ops_prim rfl (by simp (disch := omega) only [evalPrim, ↓ev_tmp, ↓ev_const, ↓put_at, ↓put_none, ↓reduceIte, Nat.reduceEqDiff, argT_zero, argT_succ, tvBinT, tvBinT.nil2, tvBinT.ptr2, tvBin, intBin, ofConst, ofValue, Option.map_some, reduceCtorEq, if_true, if_false, e1]; try rfl) ?_
    refine ops_prim rfl (by simp (disch := omega) only [evalPrim, ↓ev_tmp, ↓ev_const, ↓put_at, ↓put_none, ↓reduceIte, Nat.reduceEqDiff, argT_zero, argT_succ, cond_true, cond_false, ofConst, ofValue, e1]; try rfl) ?_
    refine ops_nil ?_
    dsimp only [Then, InBlock, ↓reduceIte]
    rw [e]
    exact ⟨rfl, rfl, rfl⟩
  · rintro T S ⟨h0, h1, h11⟩
    refine awp_ifc (by simp (disch := omega) only [evalPrim, ↓ev_tmp, ↓ev_const, ↓put_at, ↓put_none, ↓reduceIte, Nat.reduceEqDiff, argT_zero, argT_succ, Option.map_some, reduceCtorEq, if_true, if_false, h11]; try rfl) (fun hc => ?_) (fun hc => ?_)
    · simp only [decide_eq_true_eq] at hc
      refine awp_seq ?_
      refine awp_reg _ (by kernel_rfl) rfl ?_
      refine ops_call rfl rfl (by simp (disch := omega) only [callOf, List.nil_append, List.append_nil, List.cons_append, List.map_cons, List.map_nil, ofConst, ofValue, evalPrim, ↓ev_tmp, ↓ev_const, ↓put_at, ↓put_none, ↓reduceIte, Nat.reduceEqDiff, argT_zero, argT_succ]; rfl) (by kernel_rfl) (by kernel_rfl) (awake_ok) ?_
      refine ops_prim rfl (by simp (disch := omega) only [evalPrim, ↓ev_tmp, ↓ev_const, ↓put_at, ↓put_none, ↓reduceIte, Nat.reduceEqDiff, argT_zero, argT_succ, ofConst, ofValue]; try rfl) ?_
      refine ops_nil ?_
      dsimp only [Then, InBlock, ↓reduceIte]
      refine awp_ret ?_
      exact ret_ok (vs := [.c (.bool true)]) rfl rfl
    · simp only [decide_eq_false_iff_not] at hc
      obtain ⟨j, rfl⟩ : ∃ j : Nat, k = (j : Int) + 1 := ⟨(k - 1).toNat, by omega⟩
      have hj : j + 1 ≤ 62 := by omega
      have hpos : ∀ n : Nat, (0 : Int) < 2 ^ n := fun n => Int.pow_pos (by omega)
      have hle : ∀ n : Nat, n ≤ 62 → (2 : Int) ^ n ≤ 4611686018427387904 := fun n hn => by
        have h2 : (2 : Int) ^ n ≤ 2 ^ 62 := by exact_mod_cast Nat.pow_le_pow_right (n := 2) (by omega) hn
        exact h2
      have m1 : min ((j : Int) + 1).toNat 64 = j + 1 := by omega
      have m2 : min (j : Int).toNat 64 = j := by omega
      have w1 : IntKind.wrap .u64 (1 * 2 ^ min ((j : Int) + 1).toNat IntKind.u64.bits) = 2 ^ (j + 1) := by
        show IntKind.wrap .u64 (1 * 2 ^ min ((j : Int) + 1).toNat 64) = 2 ^ (j + 1)
        rw [m1, Int.one_mul]
        exact wru64 ⟨Int.le_of_lt (hpos _), by have := hle (j + 1) hj; omega⟩
      have w2 : IntKind.wrap .i64 (1 * 2 ^ min ((j : Int) + 1).toNat IntKind.i64.bits) = 2 ^ (j + 1) := by
        show IntKind.wrap .i64 (1 * 2 ^ min ((j : Int) + 1).toNat 64) = 2 ^ (j + 1)
        rw [m1, Int.one_mul]
        exact wr64 ⟨by have := hpos (j + 1); omega, by have := hle (j + 1) hj; omega⟩
      have w3 : IntKind.wrap .u8 ((j : Int) + 1 - 1) = (j : Int) := by
        rw [IntKind.wrap_u8]
        omega
      have w4 : IntKind.wrap .i64 (1 * 2 ^ min (j : Int).toNat IntKind.i64.bits) = 2 ^ j := by
        show IntKind.wrap .i64 (1 * 2 ^ min (j : Int).toNat 64) = 2 ^ j
        rw [m2, Int.one_mul]
        exact wr64 ⟨by have := hpos j; omega, by have := hle j (by omega); omega⟩
      have hne : ¬ (2 : Int) ^ (j + 1) = 0 := by have := hpos (j + 1); omega
      have w5 : IntKind.wrap .u64 (((2 : Int) ^ (j + 1)).tdiv 2) = 2 ^ j := by
        rw [Int.tdiv_eq_ediv_of_nonneg (Int.le_of_lt (hpos _)), Int.pow_succ, Int.mul_ediv_cancel _ (by omega)]
        exact wru64 ⟨Int.le_of_lt (hpos _), by have := hle j (by omega); omega⟩
      have p1 := period1 (j + 1) d hj
      have p2 := period2 j d hj
      have n1 : ¬ ((j : Int) + 1 < 0) := by omega
      have n2 : ¬ ((j : Int) < 0) := by omega
      have b1 : (2 : Int) ^ (j + 1) < 2 ^ 63 := by have := hle (j + 1) hj; omega
      have b2 : (2 : Int) ^ j < 2 ^ 63 := by have := hle j (by omega); omega
      refine awp_skip ?_
      dsimp only [Then, InBlock]
      refine awp_seq ?_
      refine awp_reg _ (by kernel_rfl) rfl ?_
      refine ops_prim rfl (by simp (disch := omega) only [evalPrim, ↓ev_tmp, ↓ev_const, ↓put_at, ↓put_none, ↓reduceIte, Nat.reduceEqDiff, argT_zero, argT_succ, h0, h1, w1, n1]; try rfl) ?_
      refine ops_prim rfl (by simp (disch := omega) only [evalPrim, ↓ev_tmp, ↓ev_const, ↓put_at, ↓put_none, ↓reduceIte, Nat.reduceEqDiff, argT_zero, argT_succ, tvBinT, tvBinT.nil2, tvBinT.ptr2, tvBin, intBin, ofConst, ofValue, Option.map_some, reduceCtorEq, if_true, if_false, h0, h1, w1, n1]; try rfl) ?_
      refine ops_prim rfl (by simp (disch := omega) only [evalPrim, ↓ev_tmp, ↓ev_const, ↓put_at, ↓put_none, ↓reduceIte, Nat.reduceEqDiff, argT_zero, argT_succ, ofConst, ofValue, h0, h1, w1, n1]; try rfl) ?_
      refine ops_nil ?_
      dsimp only [Then, InBlock, ↓reduceIte]
      refine awp_seq ?_
      refine awp_reg _ (by kernel_rfl) rfl ?_
      iterate 2 refine ops_prim rfl (by simp (disch := omega) only [evalPrim, ↓ev_tmp, ↓ev_const, ↓put_at, ↓put_none, ↓reduceIte, Nat.reduceEqDiff, argT_zero, argT_succ, h0, h1, w1, w2, w3, w4, w5, n1, n2, hne, p1, p2, beq_self_eq_true]; try rfl) ?_
      refine ops_prim rfl (by simp (disch := omega) only [evalPrim, ↓ev_tmp, ↓ev_const, ↓put_at, ↓put_none, ↓reduceIte, Nat.reduceEqDiff, argT_zero, argT_succ, tvBinT, tvBinT.nil2, tvBinT.ptr2, tvBin, intBin, ofConst, ofValue, Option.map_some, reduceCtorEq, if_true, if_false, h0, h1, w1, w2, w3, w4, w5, n1, n2, hne, p1, p2, beq_self_eq_true]; try rfl) ?_
      refine ops_call rfl rfl (by simp (disch := omega) only [callOf, List.nil_append, List.append_nil, List.cons_append, List.map_cons, List.map_nil, ofConst, ofValue, evalPrim, ↓ev_tmp, ↓ev_const, ↓put_at, ↓put_none, ↓reduceIte, Nat.reduceEqDiff, argT_zero, argT_succ, h0, h1, w1, w2, w3, w4, w5, n1, n2, hne, p1, p2, beq_self_eq_true]; rfl) (by kernel_rfl) (by kernel_rfl) (skip_sk _ _ b1) ?_
      refine ops_prim rfl (by simp (disch := omega) only [evalPrim, ↓ev_tmp, ↓ev_const, ↓put_at, ↓put_none, ↓reduceIte, Nat.reduceEqDiff, argT_zero, argT_succ, h0, h1, w1, w2, w3, w4, w5, n1, n2, hne, p1, p2, beq_self_eq_true]; try rfl) ?_
      refine ops_prim rfl (by simp (disch := omega) only [evalPrim, ↓ev_tmp, ↓ev_const, ↓put_at, ↓put_none, ↓reduceIte, Nat.reduceEqDiff, argT_zero, argT_succ, tvBinT, tvBinT.nil2, tvBinT.ptr2, tvBin, intBin, ofConst, ofValue, Option.map_some, reduceCtorEq, if_true, if_false, h0, h1, w1, w2, w3, w4, w5, n1, n2, hne, p1, p2, beq_self_eq_true]; try rfl) ?_
      refine ops_prim rfl (by simp (disch := omega) only [evalPrim, ↓ev_tmp, ↓ev_const, ↓put_at, ↓put_none, ↓reduceIte, Nat.reduceEqDiff, argT_zero, argT_succ, h0, h1, w1, w2, w3, w4, w5, n1, n2, hne, p1, p2, beq_self_eq_true]; try rfl) ?_
      iterate 2 refine ops_prim rfl (by simp (disch := omega) only [evalPrim, ↓ev_tmp, ↓ev_const, ↓put_at, ↓put_none, ↓reduceIte, Nat.reduceEqDiff, argT_zero, argT_succ, tvBinT, tvBinT.nil2, tvBinT.ptr2, tvBin, intBin, ofConst, ofValue, Option.map_some, reduceCtorEq, if_true, if_false, h0, h1, w1, w2, w3, w4, w5, n1, n2, hne, p1, p2, beq_self_eq_true]; try rfl) ?_
      refine ops_prim rfl (by simp (disch := omega) only [evalPrim, ↓ev_tmp, ↓ev_const, ↓put_at, ↓put_none, ↓reduceIte, Nat.reduceEqDiff, argT_zero, argT_succ, h0, h1, w1, w2, w3, w4, w5, n1, n2, hne, p1, p2, beq_self_eq_true]; try rfl) ?_
      refine ops_yes 24 rfl rfl (by simp (disch := omega) only [evalPrim, ↓ev_tmp, ↓ev_const, ↓put_at, ↓put_none, ↓reduceIte, Nat.reduceEqDiff, argT_zero, argT_succ, Option.map_some, reduceCtorEq, if_true, if_false, beq_self_eq_true, bne_self_eq_false, Bool.not_true, Bool.not_false, h0, h1, w1, w2, w3, w4, w5, n1, n2, hne, p1, p2]; try rfl) ?_
      refine ops_prim rfl (by simp (disch := omega) only [evalPrim, ↓ev_tmp, ↓ev_const, ↓put_at, ↓put_none, ↓reduceIte, Nat.reduceEqDiff, argT_zero, argT_succ, h0, h1, w1, w2, w3, w4, w5, n1, n2, hne, p1, p2, beq_self_eq_true]; try rfl) ?_
      refine ops_yes 24 rfl rfl (by simp (disch := omega) only [evalPrim, ↓ev_tmp, ↓ev_const, ↓put_at, ↓put_none, ↓reduceIte, Nat.reduceEqDiff, argT_zero, argT_succ, Option.map_some, reduceCtorEq, if_true, if_false, beq_self_eq_true, bne_self_eq_false, Bool.not_true, Bool.not_false, h0, h1, w1, w2, w3, w4, w5, n1, n2, hne, p1, p2]; try rfl) ?_
      refine ops_prim rfl (by simp (disch := omega) only [evalPrim, ↓ev_tmp, ↓ev_const, ↓put_at, ↓put_none, ↓reduceIte, Nat.reduceEqDiff, argT_zero, argT_succ, h0, h1, w1, w2, w3, w4, w5, n1, n2, hne, p1, p2, beq_self_eq_true]; try rfl) ?_
      refine ops_yes 24 rfl rfl (by simp (disch := omega) only [evalPrim, ↓ev_tmp, ↓ev_const, ↓put_at, ↓put_none, ↓reduceIte, Nat.reduceEqDiff, argT_zero, argT_succ, Option.map_some, reduceCtorEq, if_true, if_false, beq_self_eq_true, bne_self_eq_false, Bool.not_true, Bool.not_false, h0, h1, w1, w2, w3, w4, w5, n1, n2, hne, p1, p2]; try rfl) ?_
      refine ops_prim rfl (by simp (disch := omega) only [evalPrim, ↓ev_tmp, ↓ev_const, ↓put_at, ↓put_none, ↓reduceIte, Nat.reduceEqDiff, argT_zero, argT_succ, tvBinT, tvBinT.nil2, tvBinT.ptr2, tvBin, intBin, ofConst, ofValue, Option.map_some, reduceCtorEq, if_true, if_false, h0, h1, w1, w2, w3, w4, w5, n1, n2, hne, p1, p2, beq_self_eq_true]; try rfl) ?_
      refine ops_yes 24 rfl rfl (by simp (disch := omega) only [evalPrim, ↓ev_tmp, ↓ev_const, ↓put_at, ↓put_none, ↓reduceIte, Nat.reduceEqDiff, argT_zero, argT_succ, Option.map_some, reduceCtorEq, if_true, if_false, beq_self_eq_true, bne_self_eq_false, Bool.not_true, Bool.not_false, h0, h1, w1, w2, w3, w4, w5, n1, n2, hne, p1, p2]; try rfl) ?_
      refine ops_prim rfl (by simp (disch := omega) only [evalPrim, ↓ev_tmp, ↓ev_const, ↓put_at, ↓put_none, ↓reduceIte, Nat.reduceEqDiff, argT_zero, argT_succ, tvBinT, tvBinT.nil2, tvBinT.ptr2, tvBin, intBin, ofConst, ofValue, Option.map_some, reduceCtorEq, if_true, if_false, h0, h1, w1, w2, w3, w4, w5, n1, n2, hne, p1, p2, beq_self_eq_true]; try rfl) ?_
      refine ops_yes 24 rfl rfl (by simp (disch := omega) only [evalPrim, ↓ev_tmp, ↓ev_const, ↓put_at, ↓put_none, ↓reduceIte, Nat.reduceEqDiff, argT_zero, argT_succ, Option.map_some, reduceCtorEq, if_true, if_false, beq_self_eq_true, bne_self_eq_false, Bool.not_true, Bool.not_false, h0, h1, w1, w2, w3, w4, w5, n1, n2, hne, p1, p2]; try rfl) ?_
      refine ops_call rfl rfl (by simp (disch := omega) only [callOf, List.nil_append, List.append_nil, List.cons_append, List.map_cons, List.map_nil, ofConst, ofValue, evalPrim, ↓ev_tmp, ↓ev_const, ↓put_at, ↓put_none, ↓reduceIte, Nat.reduceEqDiff, argT_zero, argT_succ, h0, h1, w1, w2, w3, w4, w5, n1, n2, hne, p1, p2, beq_self_eq_true]; rfl) (by kernel_rfl) (by kernel_rfl) (skip_sk _ _ b2) ?_
      refine ops_yes 24 rfl rfl (by simp (disch := omega) only [evalPrim, ↓ev_tmp, ↓ev_const, ↓put_at, ↓put_none, ↓reduceIte, Nat.reduceEqDiff, argT_zero, argT_succ, Option.map_some, reduceCtorEq, if_true, if_false, beq_self_eq_true, bne_self_eq_false, Bool.not_true, Bool.not_false, h0, h1, w1, w2, w3, w4, w5, n1, n2, hne, p1, p2]; try rfl) ?_
      refine ops_prim rfl (by simp (disch := omega) only [evalPrim, ↓ev_tmp, ↓ev_const, ↓put_at, ↓put_none, ↓reduceIte, Nat.reduceEqDiff, argT_zero, argT_succ, h0, h1, w1, w2, w3, w4, w5, n1, n2, hne, p1, p2, beq_self_eq_true]; try rfl) ?_
      refine ops_yes 24 rfl rfl (by simp (disch := omega) only [evalPrim, ↓ev_tmp, ↓ev_const, ↓put_at, ↓put_none, ↓reduceIte, Nat.reduceEqDiff, argT_zero, argT_succ, Option.map_some, reduceCtorEq, if_true, if_false, beq_self_eq_true, bne_self_eq_false, Bool.not_true, Bool.not_false, h0, h1, w1, w2, w3, w4, w5, n1, n2, hne, p1, p2]; try rfl) ?_
      refine ops_prim rfl (by simp (disch := omega) only [evalPrim, ↓ev_tmp, ↓ev_const, ↓put_at, ↓put_none, ↓reduceIte, Nat.reduceEqDiff, argT_zero, argT_succ, tvBinT, tvBinT.nil2, tvBinT.ptr2, tvBin, intBin, ofConst, ofValue, Option.map_some, reduceCtorEq, if_true, if_false, h0, h1, w1, w2, w3, w4, w5, n1, n2, hne, p1, p2, beq_self_eq_true]; try rfl) ?_
      refine ops_yes 24 rfl rfl (by simp (disch := omega) only [evalPrim, ↓ev_tmp, ↓ev_const, ↓put_at, ↓put_none, ↓reduceIte, Nat.reduceEqDiff, argT_zero, argT_succ, Option.map_some, reduceCtorEq, if_true, if_false, beq_self_eq_true, bne_self_eq_false, Bool.not_true, Bool.not_false, h0, h1, w1, w2, w3, w4, w5, n1, n2, hne, p1, p2]; try rfl) ?_
      refine ops_prim rfl (by simp (disch := omega) only [evalPrim, ↓ev_tmp, ↓ev_const, ↓put_at, ↓put_none, ↓reduceIte, Nat.reduceEqDiff, argT_zero, argT_succ, h0, h1, w1, w2, w3, w4, w5, n1, n2, hne, p1, p2, beq_self_eq_true]; try rfl) ?_
      refine ops_yes 24 rfl rfl (by simp (disch := omega) only [evalPrim, ↓ev_tmp, ↓ev_const, ↓put_at, ↓put_none, ↓reduceIte, Nat.reduceEqDiff, argT_zero, argT_succ, Option.map_some, reduceCtorEq, if_true, if_false, beq_self_eq_true, bne_self_eq_false, Bool.not_true, Bool.not_false, h0, h1, w1, w2, w3, w4, w5, n1, n2, hne, p1, p2]; try rfl) ?_
      refine ops_prim rfl (by simp (disch := omega) only [evalPrim, ↓ev_tmp, ↓ev_const, ↓put_at, ↓put_none, ↓reduceIte, Nat.reduceEqDiff, argT_zero, argT_succ, tvBinT, tvBinT.nil2, tvBinT.ptr2, tvBin, intBin, ofConst, ofValue, Option.map_some, reduceCtorEq, if_true, if_false, h0, h1, w1, w2, w3, w4, w5, n1, n2, hne, p1, p2, beq_self_eq_true]; try rfl) ?_
      refine ops_yes 24 rfl rfl (by simp (disch := omega) only [evalPrim, ↓ev_tmp, ↓ev_const, ↓put_at, ↓put_none, ↓reduceIte, Nat.reduceEqDiff, argT_zero, argT_succ, Option.map_some, reduceCtorEq, if_true, if_false, beq_self_eq_true, bne_self_eq_false, Bool.not_true, Bool.not_false, h0, h1, w1, w2, w3, w4, w5, n1, n2, hne, p1, p2]; try rfl) ?_
      refine ops_prim rfl (by simp (disch := omega) only [evalPrim, ↓ev_tmp, ↓ev_const, ↓put_at, ↓put_none, ↓reduceIte, Nat.reduceEqDiff, argT_zero, argT_succ, h0, h1, w1, w2, w3, w4, w5, n1, n2, hne, p1, p2, beq_self_eq_true]; try rfl) ?_
      refine ops_yes 24 rfl rfl (by simp (disch := omega) only [evalPrim, ↓ev_tmp, ↓ev_const, ↓put_at, ↓put_none, ↓reduceIte, Nat.reduceEqDiff, argT_zero, argT_succ, Option.map_some, reduceCtorEq, if_true, if_false, beq_self_eq_true, bne_self_eq_false, Bool.not_true, Bool.not_false, h0, h1, w1, w2, w3, w4, w5, n1, n2, hne, p1, p2]; try rfl) ?_
      refine ops_prim rfl (by simp (disch := omega) only [evalPrim, ↓ev_tmp, ↓ev_const, ↓put_at, ↓put_none, ↓reduceIte, Nat.reduceEqDiff, argT_zero, argT_succ, tvBinT, tvBinT.nil2, tvBinT.ptr2, tvBin, intBin, ofConst, ofValue, Option.map_some, reduceCtorEq, if_true, if_false, h0, h1, w1, w2, w3, w4, w5, n1, n2, hne, p1, p2, beq_self_eq_true]; try rfl) ?_
      refine ops_yes 24 rfl rfl (by simp (disch := omega) only [evalPrim, ↓ev_tmp, ↓ev_const, ↓put_at, ↓put_none, ↓reduceIte, Nat.reduceEqDiff, argT_zero, argT_succ, Option.map_some, reduceCtorEq, if_true, if_false, beq_self_eq_true, bne_self_eq_false, Bool.not_true, Bool.not_false, h0, h1, w1, w2, w3, w4, w5, n1, n2, hne, p1, p2]; try rfl) ?_
      refine ops_prim rfl (by simp (disch := omega) only [evalPrim, ↓ev_tmp, ↓ev_const, ↓put_at, ↓put_none, ↓reduceIte, Nat.reduceEqDiff, argT_zero, argT_succ, tvBinT, tvBinT.nil2, tvBinT.ptr2, tvBin, intBin, ofConst, ofValue, Option.map_some, reduceCtorEq, if_true, if_false, h0, h1, w1, w2, w3, w4, w5, n1, n2, hne, p1, p2, beq_self_eq_true]; try rfl) ?_
      refine ops_prim rfl (by simp (disch := omega) only [evalPrim, ↓ev_tmp, ↓ev_const, ↓put_at, ↓put_none, ↓reduceIte, Nat.reduceEqDiff, argT_zero, argT_succ, cond_true, cond_false, ofConst, ofValue, h0, h1, w1, w2, w3, w4, w5, n1, n2, hne, p1, p2, beq_self_eq_true]; try rfl) ?_
      refine ops_prim rfl (by simp (disch := omega) only [evalPrim, ↓ev_tmp, ↓ev_const, ↓put_at, ↓put_none, ↓reduceIte, Nat.reduceEqDiff, argT_zero, argT_succ, h0, h1, w1, w2, w3, w4, w5, n1, n2, hne, p1, p2, beq_self_eq_true]; try rfl) ?_
      refine ops_yes 38 rfl rfl (by simp (disch := omega) only [evalPrim, ↓ev_tmp, ↓ev_const, ↓put_at, ↓put_none, ↓reduceIte, Nat.reduceEqDiff, argT_zero, argT_succ, Option.map_some, reduceCtorEq, if_true, if_false, beq_self_eq_true, bne_self_eq_false, Bool.not_true, Bool.not_false, h0, h1, w1, w2, w3, w4, w5, n1, n2, hne, p1, p2]; try rfl) ?_
      refine ops_call rfl rfl (by simp (disch := omega) only [callOf, List.nil_append, List.append_nil, List.cons_append, List.map_cons, List.map_nil, ofConst, ofValue, evalPrim, ↓ev_tmp, ↓ev_const, ↓put_at, ↓put_none, ↓reduceIte, Nat.reduceEqDiff, argT_zero, argT_succ, h0, h1, w1, w2, w3, w4, w5, n1, n2, hne, p1, p2, beq_self_eq_true]; rfl) (by kernel_rfl) (by kernel_rfl) (awake_ok) ?_
      refine ops_prim rfl (by simp (disch := omega) only [evalPrim, ↓ev_tmp, ↓ev_const, ↓put_at, ↓put_none, ↓reduceIte, Nat.reduceEqDiff, argT_zero, argT_succ, cond_true, cond_false, ofConst, ofValue, h0, h1, w1, w2, w3, w4, w5, n1, n2, hne, p1, p2, beq_self_eq_true]; try rfl) ?_
      refine ops_prim rfl (by simp (disch := omega) only [evalPrim, ↓ev_tmp, ↓ev_const, ↓put_at, ↓put_none, ↓reduceIte, Nat.reduceEqDiff, argT_zero, argT_succ, ofConst, ofValue, h0, h1, w1, w2, w3, w4, w5, n1, n2, hne, p1, p2, beq_self_eq_true]; try rfl) ?_
      refine ops_nil ?_
      dsimp only [Then, InBlock, ↓reduceIte]
      refine awp_ret ?_
      exact ret_ok (vs := [.c (.bool true)]) rfl rfl
end Go.Sim
