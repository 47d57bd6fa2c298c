/- A part of the proof: the walks of this law's functions. -/
import Derived.Test.YtgobcpfcekgcfaaSimP
import Derived.Test.YtgobcpfcekgcfaaProg
namespace Go.Sim
open Go Go.Proofs
set_option maxRecDepth 4000
set_option autoImplicit false
set_option linter.unusedSimpArgs false
theorem one_ok : CCall Try.prog 24 [] (.agg [.c (.int .u64 6364136223846793005), .c (.int .u64 1442695040888963407)]) := ccall_run 40 (by kernel_rfl)
theorem sz40 : szOf Try.prog 40 = some 2 := by kernel_rfl
theorem sz22 : szOf Try.prog 22 = some 1 := by kernel_rfl
theorem agg40 : aggT Try.prog 40 = true := by kernel_rfl
theorem zero40 : zeroCs Try.prog 40 = some [.int .u64 0, .int .u64 0] := by kernel_rfl
theorem apply_ok (b p d : Int) : CCall Try.prog 25 [.agg [.c (.int .u64 b), .c (.int .u64 p)], .c (.int .u64 d)] (.c (.int .u64 (IntKind.wrap .u64 (IntKind.wrap .u64 (d * b) + p)))) := ccall_run 40 (by kernel_rfl)
theorem then_ok (b p c q : Int) : CCall Try.prog 29 [.agg [.c (.int .u64 b), .c (.int .u64 p)], .agg [.c (.int .u64 c), .c (.int .u64 q)]] (.agg [.c (.int .u64 (IntKind.wrap .u64 (b * c))), .c (.int .u64 (IntKind.wrap .u64 (IntKind.wrap .u64 (p * c) + q)))]) := ccall_run 40 (by kernel_rfl)

def m64 (a b : Int) : Int := IntKind.wrap .u64 (a * b)
def a64 (a b : Int) : Int := IntKind.wrap .u64 (a + b)

def skipF : Nat → Int → Int → Int → Int → Int
  | 0, d, _, _, _ => d
  | n + 1, d, k, b, p => if k > 0 then skipF n (if k % 2 = 1 then a64 (m64 d b) p else d) (k / 2) (m64 b b) (a64 (m64 p b) p) else d

theorem skipF_fuel : ∀ (n m : Nat) (d k b p : Int), k.toNat < n → k.toNat < m → skipF n d k b p = skipF m d k b p
  | 0, m, d, k, b, p, h, _ => by omega
  | n + 1, 0, d, k, b, p, _, h => by omega
  | n + 1, m + 1, d, k, b, p, h1, h2 => by
    simp only [skipF]
    split
    · exact skipF_fuel n m _ _ _ _ (by omega) (by omega)
    · rfl

theorem refskip_ok (d k : Int) (h : k < 2 ^ 63) : CCall Try.prog 23 [.c (.int .u64 d), .c (.int .i64 k)] (.c (.int .u64 (skipF (k.toNat + 1) d k 6364136223846793005 1442695040888963407))) := by
  refine ccall_intro Try.func23 Try.ntmps23 rfl (Nat.le_of_ble_eq_true rfl) (by simp [Closed.c]) ?_
  refine awp_seq ?_
  refine awp_reg _ (by kernel_rfl) rfl ?_
  refine ops_prim rfl (by simp (disch := omega) only [evalPrim, ↓ev_tmp, ↓ev_const, ↓put_at, ↓put_none, ↓reduceIte, Nat.reduceEqDiff, argT_zero, argT_succ, ofConst, ofValue]; try rfl) ?_
  refine ops_nil ?_
  dsimp only [Then, InBlock, ↓reduceIte]
  refine awp_seq ?_
  refine awp_reg _ (by kernel_rfl) rfl ?_
  iterate 2 refine ops_prim rfl (by simp (disch := omega) only [evalPrim, ↓ev_tmp, ↓ev_const, ↓put_at, ↓put_none, ↓reduceIte, Nat.reduceEqDiff, argT_zero, argT_succ, ofConst, ofValue]; try rfl) ?_
  refine ops_nil ?_
  dsimp only [Then, InBlock, ↓reduceIte]
  refine awp_seq (awp_block ?_)
  refine awp_loop (fun n T S => ∃ d' k' b p, T 0 = .c (.int .u64 d') ∧ T 1 = .c (.int .i64 k') ∧ T 5 = .c (.int .u64 b) ∧ T 6 = .c (.int .u64 p) ∧ n = k'.toNat ∧ k' < 2 ^ 63 ∧
    skipF (k'.toNat + 1) d' k' b p = skipF (k.toNat + 1) d k 6364136223846793005 1442695040888963407) k.toNat ⟨d, k, _, _, rfl, rfl, rfl, rfl, rfl, h, rfl⟩ ?_
  rintro n T S ⟨d', k', b, p, h0, h1, h5, h6, rfl, hk, hs⟩
  refine awp_seq (awp_seq ?_)
  refine awp_reg _ (by kernel_rfl) rfl ?_
  refine ops_prim rfl (by simp (disch := omega) only [evalPrim, ↓ev_tmp, ↓ev_const, ↓put_at, ↓put_none, ↓reduceIte, Nat.reduceEqDiff, argT_zero, argT_succ, h0, h1, h5, h6]; try rfl) ?_
  refine ops_prim rfl (by simp (disch := omega) only [evalPrim, ↓ev_tmp, ↓ev_const, ↓put_at, ↓put_none, ↓reduceIte, Nat.reduceEqDiff, argT_zero, argT_succ, tvBinT, tvBinT.nil2, tvBinT.ptr2, tvBin, intBin, ofConst, ofValue, Option.map_some, reduceCtorEq, if_true, if_false, h0, h1, h5, h6]; try rfl) ?_
  refine ops_nil ?_
  dsimp only [Then, InBlock, ↓reduceIte]
  refine awp_ifc (by simp (disch := omega) only [evalPrim, ↓ev_tmp, ↓ev_const, ↓put_at, ↓put_none, ↓reduceIte, Nat.reduceEqDiff, argT_zero, argT_succ, Option.map_some, reduceCtorEq, if_true, if_false]; try rfl) (fun hc => ?_) (fun hc => ?_)
  · simp only [decide_eq_true_eq] at hc
    refine awp_skip ?_
    dsimp only [Then]
    refine awp_block ?_
    refine awp_seq (awp_seq ?_)
    refine awp_reg _ (by kernel_rfl) rfl ?_
    refine ops_prim rfl (by simp (disch := omega) only [evalPrim, ↓ev_tmp, ↓ev_const, ↓put_at, ↓put_none, ↓reduceIte, Nat.reduceEqDiff, argT_zero, argT_succ, h0, h1, h5, h6]; try rfl) ?_
    iterate 2 refine ops_prim rfl (by simp (disch := omega) only [evalPrim, ↓ev_tmp, ↓ev_const, ↓put_at, ↓put_none, ↓reduceIte, Nat.reduceEqDiff, argT_zero, argT_succ, tvBinT, tvBinT.nil2, tvBinT.ptr2, tvBin, intBin, ofConst, ofValue, Option.map_some, reduceCtorEq, if_true, if_false, h0, h1, h5, h6]; try rfl) ?_
    refine ops_nil ?_
    dsimp only [Then, InBlock, ↓reduceIte]
    refine awp_cut (fun T' S' => T' 0 = .c (.int .u64 (if k' % 2 = 1 then a64 (m64 d' b) p else d')) ∧ T' 1 = .c (.int .i64 k') ∧ T' 5 = .c (.int .u64 b) ∧ T' 6 = .c (.int .u64 p)) ?_ ?_
    · refine awp_ifc (by simp (disch := omega) only [evalPrim, ↓ev_tmp, ↓ev_const, ↓put_at, ↓put_none, ↓reduceIte, Nat.reduceEqDiff, argT_zero, argT_succ, Option.map_some, reduceCtorEq, if_true, if_false]; try rfl) (fun hc => ?_) (fun hc => ?_)
      · simp only [beq_iff_eq, beq_eq_false_iff_ne] at hc
        rw [Int.tmod_eq_emod_of_nonneg (by omega)] at hc
        have hodd : k' % 2 = 1 := by omega
        refine awp_reg _ (by kernel_rfl) rfl ?_
        iterate 2 refine ops_prim rfl (by simp (disch := omega) only [evalPrim, ↓ev_tmp, ↓ev_const, ↓put_at, ↓put_none, ↓reduceIte, Nat.reduceEqDiff, argT_zero, argT_succ, h0, h1, h5, h6]; try rfl) ?_
        refine ops_prim rfl (by simp (disch := omega) only [evalPrim, ↓ev_tmp, ↓ev_const, ↓put_at, ↓put_none, ↓reduceIte, Nat.reduceEqDiff, argT_zero, argT_succ, tvBinT, tvBinT.nil2, tvBinT.ptr2, tvBin, intBin, ofConst, ofValue, Option.map_some, reduceCtorEq, if_true, if_false, h0, h1, h5, h6]; try rfl) ?_
        refine ops_prim rfl (by simp (disch := omega) only [evalPrim, ↓ev_tmp, ↓ev_const, ↓put_at, ↓put_none, ↓reduceIte, Nat.reduceEqDiff, argT_zero, argT_succ, h0, h1, h5, h6]; try rfl) ?_
        refine ops_prim rfl (by simp (disch := omega) only [evalPrim, ↓ev_tmp, ↓ev_const, ↓put_at, ↓put_none, ↓reduceIte, Nat.reduceEqDiff, argT_zero, argT_succ, tvBinT, tvBinT.nil2, tvBinT.ptr2, tvBin, intBin, ofConst, ofValue, Option.map_some, reduceCtorEq, if_true, if_false, h0, h1, h5, h6]; try rfl) ?_
        refine ops_prim rfl (by simp (disch := omega) only [evalPrim, ↓ev_tmp, ↓ev_const, ↓put_at, ↓put_none, ↓reduceIte, Nat.reduceEqDiff, argT_zero, argT_succ, ofConst, ofValue, h0, h1, h5, h6]; try rfl) ?_
        refine ops_nil ?_
        dsimp only [Then, InBlock, ↓reduceIte]
        refine ⟨?_, ?_, ?_, ?_⟩ <;> simp (disch := omega) only [evalPrim, ↓ev_tmp, ↓ev_const, ↓put_at, ↓put_none, ↓reduceIte, Nat.reduceEqDiff, argT_zero, argT_succ, Option.map_some, reduceCtorEq, if_true, if_false, at_set_same, at_pushed, next_push, next_set, next_empty, h0, h1, h5, h6]
        rw [if_pos hodd]; rfl
      · simp only [beq_iff_eq, beq_eq_false_iff_ne] at hc
        rw [Int.tmod_eq_emod_of_nonneg (by omega)] at hc
        have hodd : ¬ k' % 2 = 1 := by omega
        refine awp_skip ?_
        dsimp only [Then]
        refine ⟨?_, ?_, ?_, ?_⟩ <;> simp (disch := omega) only [evalPrim, ↓ev_tmp, ↓ev_const, ↓put_at, ↓put_none, ↓reduceIte, Nat.reduceEqDiff, argT_zero, argT_succ, Option.map_some, reduceCtorEq, if_true, if_false, at_set_same, at_pushed, next_push, next_set, next_empty, h0, h1, h5, h6]
        rw [if_neg hodd]
    · clear h0 h1 h5 h6
      rintro T S ⟨h0, h1, h5, h6⟩
      refine awp_seq ?_
      refine awp_reg _ (by kernel_rfl) rfl ?_
      iterate 2 refine ops_prim rfl (by simp (disch := omega) only [evalPrim, ↓ev_tmp, ↓ev_const, ↓put_at, ↓put_none, ↓reduceIte, Nat.reduceEqDiff, argT_zero, argT_succ, h0, h1, h5, h6]; try rfl) ?_
      refine ops_prim rfl (by simp (disch := omega) only [evalPrim, ↓ev_tmp, ↓ev_const, ↓put_at, ↓put_none, ↓reduceIte, Nat.reduceEqDiff, argT_zero, argT_succ, tvBinT, tvBinT.nil2, tvBinT.ptr2, tvBin, intBin, ofConst, ofValue, Option.map_some, reduceCtorEq, if_true, if_false, h0, h1, h5, h6]; try rfl) ?_
      refine ops_prim rfl (by simp (disch := omega) only [evalPrim, ↓ev_tmp, ↓ev_const, ↓put_at, ↓put_none, ↓reduceIte, Nat.reduceEqDiff, argT_zero, argT_succ, h0, h1, h5, h6]; try rfl) ?_
      refine ops_prim rfl (by simp (disch := omega) only [evalPrim, ↓ev_tmp, ↓ev_const, ↓put_at, ↓put_none, ↓reduceIte, Nat.reduceEqDiff, argT_zero, argT_succ, tvBinT, tvBinT.nil2, tvBinT.ptr2, tvBin, intBin, ofConst, ofValue, Option.map_some, reduceCtorEq, if_true, if_false, h0, h1, h5, h6]; try rfl) ?_
      refine ops_prim rfl (by simp (disch := omega) only [evalPrim, ↓ev_tmp, ↓ev_const, ↓put_at, ↓put_none, ↓reduceIte, Nat.reduceEqDiff, argT_zero, argT_succ, ofConst, ofValue, h0, h1, h5, h6]; try rfl) ?_
      refine ops_nil ?_
      dsimp only [Then, InBlock, ↓reduceIte]
      refine awp_seq ?_
      refine awp_reg _ (by kernel_rfl) rfl ?_
      iterate 2 refine ops_prim rfl (by simp (disch := omega) only [evalPrim, ↓ev_tmp, ↓ev_const, ↓put_at, ↓put_none, ↓reduceIte, Nat.reduceEqDiff, argT_zero, argT_succ, h0, h1, h5, h6]; try rfl) ?_
      refine ops_prim rfl (by simp (disch := omega) only [evalPrim, ↓ev_tmp, ↓ev_const, ↓put_at, ↓put_none, ↓reduceIte, Nat.reduceEqDiff, argT_zero, argT_succ, tvBinT, tvBinT.nil2, tvBinT.ptr2, tvBin, intBin, ofConst, ofValue, Option.map_some, reduceCtorEq, if_true, if_false, h0, h1, h5, h6]; try rfl) ?_
      refine ops_prim rfl (by simp (disch := omega) only [evalPrim, ↓ev_tmp, ↓ev_const, ↓put_at, ↓put_none, ↓reduceIte, Nat.reduceEqDiff, argT_zero, argT_succ, ofConst, ofValue, h0, h1, h5, h6]; try rfl) ?_
      refine ops_nil ?_
      dsimp only [Then, InBlock, ↓reduceIte]
      refine awp_reg _ (by kernel_rfl) rfl ?_
      refine ops_prim rfl (by simp (disch := omega) only [evalPrim, ↓ev_tmp, ↓ev_const, ↓put_at, ↓put_none, ↓reduceIte, Nat.reduceEqDiff, argT_zero, argT_succ, h0, h1, h5, h6]; try rfl) ?_
      refine ops_prim rfl (by simp (disch := omega) only [evalPrim, ↓ev_tmp, ↓ev_const, ↓put_at, ↓put_none, ↓reduceIte, Nat.reduceEqDiff, argT_zero, argT_succ, tvBinT, tvBinT.nil2, tvBinT.ptr2, tvBin, intBin, ofConst, ofValue, Option.map_some, reduceCtorEq, if_true, if_false, h0, h1, h5, h6]; try rfl) ?_
      refine ops_prim rfl (by simp (disch := omega) only [evalPrim, ↓ev_tmp, ↓ev_const, ↓put_at, ↓put_none, ↓reduceIte, Nat.reduceEqDiff, argT_zero, argT_succ, ofConst, ofValue, h0, h1, h5, h6]; try rfl) ?_
      refine ops_nil ?_
      dsimp only [Then, InBlock, ↓reduceIte]
      have hdiv : k'.tdiv 2 = k' / 2 := Int.tdiv_eq_ediv_of_nonneg (by omega)
      refine ⟨(k' / 2).toNat, by omega, (if k' % 2 = 1 then a64 (m64 d' b) p else d'), k' / 2, m64 b b, a64 (m64 p b) p, ?_, ?_, ?_, ?_, rfl, by omega, ?_⟩
      · simp (disch := omega) only [evalPrim, ↓ev_tmp, ↓ev_const, ↓put_at, ↓put_none, ↓reduceIte, Nat.reduceEqDiff, argT_zero, argT_succ, Option.map_some, reduceCtorEq, if_true, if_false, at_set_same, at_pushed, next_push, next_set, next_empty, h0, h1, h5, h6]
      · simp (disch := omega) only [evalPrim, ↓ev_tmp, ↓ev_const, ↓put_at, ↓put_none, ↓reduceIte, Nat.reduceEqDiff, argT_zero, argT_succ, Option.map_some, reduceCtorEq, if_true, if_false, at_set_same, at_pushed, next_push, next_set, next_empty, h0, h1, h5, h6]
        rw [hdiv, wr64 (by omega)]
      · simp (disch := omega) only [evalPrim, ↓ev_tmp, ↓ev_const, ↓put_at, ↓put_none, ↓reduceIte, Nat.reduceEqDiff, argT_zero, argT_succ, Option.map_some, reduceCtorEq, if_true, if_false, at_set_same, at_pushed, next_push, next_set, next_empty, h0, h1, h5, h6]
        rfl
      · simp (disch := omega) only [evalPrim, ↓ev_tmp, ↓ev_const, ↓put_at, ↓put_none, ↓reduceIte, Nat.reduceEqDiff, argT_zero, argT_succ, Option.map_some, reduceCtorEq, if_true, if_false, at_set_same, at_pushed, next_push, next_set, next_empty, h0, h1, h5, h6]
        rfl
      · rw [← hs]
        conv => rhs; rw [skipF, if_pos hc]
        exact skipF_fuel _ _ _ _ _ _ (by omega) (by omega)
  · refine awp_exit ?_
    dsimp only [Then, InBlock]
    refine Eq.mpr (if_pos rfl) ?_
    refine awp_seq ?_
    refine awp_reg _ (by kernel_rfl) rfl ?_
    refine ops_prim rfl (by simp (disch := omega) only [evalPrim, ↓ev_tmp, ↓ev_const, ↓put_at, ↓put_none, ↓reduceIte, Nat.reduceEqDiff, argT_zero, argT_succ, h0, h1, h5, h6]; try rfl) ?_
    refine ops_prim rfl (by simp (disch := omega) only [evalPrim, ↓ev_tmp, ↓ev_const, ↓put_at, ↓put_none, ↓reduceIte, Nat.reduceEqDiff, argT_zero, argT_succ, ofConst, ofValue, h0, h1, h5, h6]; try rfl) ?_
    refine ops_nil ?_
    dsimp only [Then, InBlock, ↓reduceIte]
    refine awp_ret ?_
    simp only [decide_eq_false_iff_not] at hc
    have e : skipF (k'.toNat + 1) d' k' b p = d' := by rw [skipF, if_neg hc]
    rw [← hs, e]
    refine ⟨[.c (.int .u64 d')], ?_, .c _ _ (.c _)⟩
    simp only [Try.f23, resAll, resOf, ↓put_at, ↓reduceIte, h0]

theorem skip_ok (d k : Int) (h : k < 2 ^ 63) : CCall Try.prog 22 [.c (.int .u64 d), .c (.int .i64 k)] (.c (.int .u64 (skipF (k.toNat + 1) d k 6364136223846793005 1442695040888963407))) := by
  refine ccall_intro Try.func22 Try.ntmps22 rfl (Nat.le_of_ble_eq_true rfl) (by simp [Closed.c]) ?_
  refine awp_seq ?_
  refine awp_reg _ (by kernel_rfl) rfl ?_
  refine ops_prim rfl (by simp (disch := omega) only [evalPrim, ↓ev_tmp, ↓ev_const, ↓put_at, ↓put_none, ↓reduceIte, Nat.reduceEqDiff, argT_zero, argT_succ, ofConst, ofValue]; try rfl) ?_
  refine ops_nil ?_
  dsimp only [Then, InBlock, ↓reduceIte]
  refine awp_seq ?_
  refine awp_reg _ (by kernel_rfl) rfl ?_
  refine ops_call rfl rfl (by simp (disch := omega) only [callOf, List.nil_append, List.append_nil, List.cons_append, List.map_cons, List.map_nil, ofConst, ofValue, evalPrim, ↓ev_tmp, ↓ev_const, ↓put_at, ↓put_none, ↓reduceIte, Nat.reduceEqDiff, argT_zero, argT_succ, Try.underlying40, sz40, splice_full, zero40]; rfl) (by kernel_rfl) (by kernel_rfl) (one_ok) ?_
  refine ops_prim rfl (by simp (disch := omega) only [evalPrim, ↓ev_tmp, ↓ev_const, ↓put_at, ↓put_none, ↓reduceIte, Nat.reduceEqDiff, argT_zero, argT_succ, tvAlloc, next_push, next_set, next_empty, List.map_cons, List.map_nil, Nat.reduceAdd, Try.underlying40, sz40, splice_full, zero40]; try rfl) ?_
  refine ops_prim rfl (by simp (disch := omega) only [evalPrim, ↓ev_tmp, ↓ev_const, ↓put_at, ↓put_none, ↓reduceIte, Nat.reduceEqDiff, argT_zero, argT_succ, tvStore, ofConst, ofValue, cellsOf, at_set_same, at_pushed, List.length_cons, List.length_nil, Nat.reduceAdd, Nat.reduceLeDiff, Nat.zero_add, Nat.le_refl, List.all_cons, List.all_nil, TV.one, Bool.and_true, Bool.and_self, and_true, true_and, and_self, Option.map_some, reduceCtorEq, if_true, if_false, Try.underlying40, sz40, splice_full, zero40]; try rfl) ?_
  refine ops_nil ?_
  dsimp only [Then, InBlock, ↓reduceIte]
  refine awp_seq (awp_block ?_)
  refine awp_loop (fun n T S => ∃ d' k' b p, T 0 = .c (.int .u64 d') ∧ T 1 = .c (.int .i64 k') ∧ T 5 = .ptr 0 0 0 ∧ S.at 0 0 = some (40, 0, [.c (.int .u64 b), .c (.int .u64 p)]) ∧ n = k'.toNat ∧ k' < 2 ^ 63 ∧
    skipF (k'.toNat + 1) d' k' b p = skipF (k.toNat + 1) d k 6364136223846793005 1442695040888963407) k.toNat ⟨d, k, _, _, rfl, rfl, rfl, rfl, rfl, h, rfl⟩ ?_
  rintro n T S ⟨d', k', b, p, h0, h1, h5, hS, rfl, hk, hs⟩
  refine awp_seq (awp_seq ?_)
  refine awp_reg _ (by kernel_rfl) rfl ?_
  refine ops_prim rfl (by simp (disch := omega) only [evalPrim, ↓ev_tmp, ↓ev_const, ↓put_at, ↓put_none, ↓reduceIte, Nat.reduceEqDiff, argT_zero, argT_succ, h0, h1, h5]; try rfl) ?_
  refine ops_prim rfl (by simp (disch := omega) only [evalPrim, ↓ev_tmp, ↓ev_const, ↓put_at, ↓put_none, ↓reduceIte, Nat.reduceEqDiff, argT_zero, argT_succ, tvBinT, tvBinT.nil2, tvBinT.ptr2, tvBin, intBin, ofConst, ofValue, Option.map_some, reduceCtorEq, if_true, if_false, h0, h1, h5]; try rfl) ?_
  refine ops_nil ?_
  dsimp only [Then, InBlock, ↓reduceIte]
  refine awp_ifc (by simp (disch := omega) only [evalPrim, ↓ev_tmp, ↓ev_const, ↓put_at, ↓put_none, ↓reduceIte, Nat.reduceEqDiff, argT_zero, argT_succ, Option.map_some, reduceCtorEq, if_true, if_false]; try rfl) (fun hc => ?_) (fun hc => ?_)
  · simp only [decide_eq_true_eq] at hc
    refine awp_skip ?_
    dsimp only [Then]
    refine awp_seq ?_
    refine awp_block ?_
    refine awp_seq (awp_seq ?_)
    refine awp_reg _ (by kernel_rfl) rfl ?_
    refine ops_prim rfl (by simp (disch := omega) only [evalPrim, ↓ev_tmp, ↓ev_const, ↓put_at, ↓put_none, ↓reduceIte, Nat.reduceEqDiff, argT_zero, argT_succ, h0, h1, h5]; try rfl) ?_
    iterate 2 refine ops_prim rfl (by simp (disch := omega) only [evalPrim, ↓ev_tmp, ↓ev_const, ↓put_at, ↓put_none, ↓reduceIte, Nat.reduceEqDiff, argT_zero, argT_succ, tvBinT, tvBinT.nil2, tvBinT.ptr2, tvBin, intBin, ofConst, ofValue, Option.map_some, reduceCtorEq, if_true, if_false, h0, h1, h5]; try rfl) ?_
    refine ops_nil ?_
    dsimp only [Then, InBlock, ↓reduceIte]
    refine awp_cut (fun T' S' => T' 0 = .c (.int .u64 (if k' % 2 = 1 then a64 (m64 d' b) p else d')) ∧ T' 1 = .c (.int .i64 k') ∧ T' 5 = .ptr 0 0 0 ∧ S'.at 0 0 = some (40, 0, [.c (.int .u64 b), .c (.int .u64 p)])) ?_ ?_
    · refine awp_ifc (by simp (disch := omega) only [evalPrim, ↓ev_tmp, ↓ev_const, ↓put_at, ↓put_none, ↓reduceIte, Nat.reduceEqDiff, argT_zero, argT_succ, Option.map_some, reduceCtorEq, if_true, if_false]; try rfl) (fun hc => ?_) (fun hc => ?_)
      · simp only [beq_iff_eq, beq_eq_false_iff_ne] at hc
        rw [and1 (by omega) (by omega)] at hc
        have hodd : k' % 2 = 1 := by omega
        refine awp_reg _ (by kernel_rfl) rfl ?_
        refine ops_prim rfl (by simp (disch := omega) only [evalPrim, ↓ev_tmp, ↓ev_const, ↓put_at, ↓put_none, ↓reduceIte, Nat.reduceEqDiff, argT_zero, argT_succ, tvLoad, at_set_same, at_pushed, List.length_cons, List.length_nil, Nat.reduceAdd, Nat.reduceLeDiff, Nat.zero_add, Nat.le_refl, List.drop_zero, List.drop_succ_cons, List.take_succ_cons, List.take_zero, List.getElem?_cons_zero, List.getElem?_cons_succ, Bool.false_eq_true, Option.map_some, reduceCtorEq, if_true, if_false, h0, h1, h5, hS, Try.underlying40, sz40, splice_full, zero40]; try rfl) ?_
        refine ops_prim rfl (by simp (disch := omega) only [evalPrim, ↓ev_tmp, ↓ev_const, ↓put_at, ↓put_none, ↓reduceIte, Nat.reduceEqDiff, argT_zero, argT_succ, h0, h1, h5, hS, Try.underlying40, sz40, splice_full, zero40]; try rfl) ?_
        refine ops_call rfl rfl (by simp (disch := omega) only [callOf, List.nil_append, List.append_nil, List.cons_append, List.map_cons, List.map_nil, ofConst, ofValue, evalPrim, ↓ev_tmp, ↓ev_const, ↓put_at, ↓put_none, ↓reduceIte, Nat.reduceEqDiff, argT_zero, argT_succ, h0, h1, h5, hS, Try.underlying40, sz40, splice_full, zero40]; rfl) (by kernel_rfl) (by kernel_rfl) (apply_ok _ _ _) ?_
        refine ops_prim rfl (by simp (disch := omega) only [evalPrim, ↓ev_tmp, ↓ev_const, ↓put_at, ↓put_none, ↓reduceIte, Nat.reduceEqDiff, argT_zero, argT_succ, ofConst, ofValue, h0, h1, h5, hS, Try.underlying40, sz40, splice_full, zero40]; try rfl) ?_
        refine ops_nil ?_
        dsimp only [Then, InBlock, ↓reduceIte]
        refine ⟨?_, ?_, ?_, ?_⟩ <;> simp (disch := omega) only [evalPrim, ↓ev_tmp, ↓ev_const, ↓put_at, ↓put_none, ↓reduceIte, Nat.reduceEqDiff, argT_zero, argT_succ, Option.map_some, reduceCtorEq, if_true, if_false, at_set_same, at_pushed, next_push, next_set, next_empty, h0, h1, h5, hS]
        rw [if_pos hodd]; rfl
      · simp only [beq_iff_eq, beq_eq_false_iff_ne] at hc
        rw [and1 (by omega) (by omega)] at hc
        have hodd : ¬ k' % 2 = 1 := by omega
        refine awp_skip ?_
        dsimp only [Then]
        refine ⟨?_, ?_, ?_, ?_⟩ <;> simp (disch := omega) only [evalPrim, ↓ev_tmp, ↓ev_const, ↓put_at, ↓put_none, ↓reduceIte, Nat.reduceEqDiff, argT_zero, argT_succ, Option.map_some, reduceCtorEq, if_true, if_false, at_set_same, at_pushed, next_push, next_set, next_empty, h0, h1, h5, hS]
        rw [if_neg hodd]
    · clear h0 h1 h5 hS
      rintro T S ⟨h0, h1, h5, hS⟩
      refine awp_reg _ (by kernel_rfl) rfl ?_
      iterate 2 refine ops_prim rfl (by simp (disch := omega) only [evalPrim, ↓ev_tmp, ↓ev_const, ↓put_at, ↓put_none, ↓reduceIte, Nat.reduceEqDiff, argT_zero, argT_succ, tvLoad, at_set_same, at_pushed, List.length_cons, List.length_nil, Nat.reduceAdd, Nat.reduceLeDiff, Nat.zero_add, Nat.le_refl, List.drop_zero, List.drop_succ_cons, List.take_succ_cons, List.take_zero, List.getElem?_cons_zero, List.getElem?_cons_succ, Bool.false_eq_true, Option.map_some, reduceCtorEq, if_true, if_false, h0, h1, h5, hS, Try.underlying40, sz40, splice_full, zero40]; try rfl) ?_
      refine ops_call rfl rfl (by simp (disch := omega) only [callOf, List.nil_append, List.append_nil, List.cons_append, List.map_cons, List.map_nil, ofConst, ofValue, evalPrim, ↓ev_tmp, ↓ev_const, ↓put_at, ↓put_none, ↓reduceIte, Nat.reduceEqDiff, argT_zero, argT_succ, h0, h1, h5, hS, Try.underlying40, sz40, splice_full, zero40]; rfl) (by kernel_rfl) (by kernel_rfl) (then_ok _ _ _ _) ?_
      refine ops_prim rfl (by simp (disch := omega) only [evalPrim, ↓ev_tmp, ↓ev_const, ↓put_at, ↓put_none, ↓reduceIte, Nat.reduceEqDiff, argT_zero, argT_succ, tvStore, ofConst, ofValue, cellsOf, at_set_same, at_pushed, List.length_cons, List.length_nil, Nat.reduceAdd, Nat.reduceLeDiff, Nat.zero_add, Nat.le_refl, List.all_cons, List.all_nil, TV.one, Bool.and_true, Bool.and_self, and_true, true_and, and_self, Option.map_some, reduceCtorEq, if_true, if_false, h0, h1, h5, hS, Try.underlying40, sz40, splice_full, zero40]; try rfl) ?_
      refine ops_nil ?_
      dsimp only [Then, InBlock, ↓reduceIte]
      refine awp_reg _ (by kernel_rfl) rfl ?_
      refine ops_prim rfl (by simp (disch := omega) only [evalPrim, ↓ev_tmp, ↓ev_const, ↓put_at, ↓put_none, ↓reduceIte, Nat.reduceEqDiff, argT_zero, argT_succ, h0, h1, h5]; try rfl) ?_
      refine ops_prim rfl (by simp (disch := omega) only [evalPrim, ↓ev_tmp, ↓ev_const, ↓put_at, ↓put_none, ↓reduceIte, Nat.reduceEqDiff, argT_zero, argT_succ, tvBinT, tvBinT.nil2, tvBinT.ptr2, tvBin, intBin, ofConst, ofValue, Option.map_some, reduceCtorEq, if_true, if_false, h0, h1, h5]; try rfl) ?_
      refine ops_prim rfl (by simp (disch := omega) only [evalPrim, ↓ev_tmp, ↓ev_const, ↓put_at, ↓put_none, ↓reduceIte, Nat.reduceEqDiff, argT_zero, argT_succ, ofConst, ofValue, h0, h1, h5]; try rfl) ?_
      refine ops_nil ?_
      dsimp only [Then, InBlock, ↓reduceIte]
      refine ⟨(k' / 2).toNat, by omega, (if k' % 2 = 1 then a64 (m64 d' b) p else d'), k' / 2, m64 b b, a64 (m64 p b) p, ?_, ?_, ?_, ?_, rfl, by omega, ?_⟩
      · simp (disch := omega) only [evalPrim, ↓ev_tmp, ↓ev_const, ↓put_at, ↓put_none, ↓reduceIte, Nat.reduceEqDiff, argT_zero, argT_succ, Option.map_some, reduceCtorEq, if_true, if_false, at_set_same, at_pushed, next_push, next_set, next_empty, h0, h1, h5]
      · simp (disch := omega) only [evalPrim, ↓ev_tmp, ↓ev_const, ↓put_at, ↓put_none, ↓reduceIte, Nat.reduceEqDiff, argT_zero, argT_succ, Option.map_some, reduceCtorEq, if_true, if_false, at_set_same, at_pushed, next_push, next_set, next_empty, h0, h1, h5, shr1]
      · simp (disch := omega) only [evalPrim, ↓ev_tmp, ↓ev_const, ↓put_at, ↓put_none, ↓reduceIte, Nat.reduceEqDiff, argT_zero, argT_succ, Option.map_some, reduceCtorEq, if_true, if_false, at_set_same, at_pushed, next_push, next_set, next_empty, h0, h1, h5]
      · simp (disch := omega) only [evalPrim, ↓ev_tmp, ↓ev_const, ↓put_at, ↓put_none, ↓reduceIte, Nat.reduceEqDiff, argT_zero, argT_succ, Option.map_some, reduceCtorEq, if_true, if_false, at_set_same, at_pushed, next_push, next_set, next_empty, h0, h1, h5]
        rfl
      · rw [← hs]
        conv => rhs; rw [skipF, if_pos hc]
        exact skipF_fuel _ _ _ _ _ _ (by omega) (by omega)
  · refine awp_exit ?_
    dsimp only [Then, InBlock]
    refine Eq.mpr (if_pos rfl) ?_
    refine awp_seq ?_
    refine awp_reg _ (by kernel_rfl) rfl ?_
    refine ops_prim rfl (by simp (disch := omega) only [evalPrim, ↓ev_tmp, ↓ev_const, ↓put_at, ↓put_none, ↓reduceIte, Nat.reduceEqDiff, argT_zero, argT_succ, h0, h1, h5]; try rfl) ?_
    refine ops_prim rfl (by simp (disch := omega) only [evalPrim, ↓ev_tmp, ↓ev_const, ↓put_at, ↓put_none, ↓reduceIte, Nat.reduceEqDiff, argT_zero, argT_succ, ofConst, ofValue, h0, h1, h5]; try rfl) ?_
    refine ops_nil ?_
    dsimp only [Then, InBlock, ↓reduceIte]
    refine awp_ret ?_
    simp only [decide_eq_false_iff_not] at hc
    have e : skipF (k'.toNat + 1) d' k' b p = d' := by rw [skipF, if_neg hc]
    rw [← hs, e]
    refine ⟨[.c (.int .u64 d')], ?_, .c _ _ (.c _)⟩
    simp only [Try.f22, resAll, resOf, ↓put_at, ↓reduceIte, h0]

theorem awake_ok : CCall Try.prog 16 [] (.c (.bool true)) := ccall_run 400 (by kernel_rfl)

theorem skips_ok (d k : Int) (h : k < 2 ^ 63) : CCall Try.prog 6 [.c (.int .u64 d), .c (.int .i64 k)] (.c (.bool true)) := by
  refine ccall_intro Try.func6 Try.ntmps6 rfl (Nat.le_of_ble_eq_true rfl) (by simp [Closed.c]) ?_
  refine awp_seq ?_
  refine awp_reg _ (by kernel_rfl) rfl ?_
  refine ops_prim rfl (by simp (disch := omega) only [evalPrim, ↓ev_tmp, ↓ev_const, ↓put_at, ↓put_none, ↓reduceIte, Nat.reduceEqDiff, argT_zero, argT_succ, ofConst, ofValue]; try rfl) ?_
  refine ops_nil ?_
  dsimp only [Then, InBlock, ↓reduceIte]
  refine awp_seq ?_
  refine awp_reg _ (by kernel_rfl) rfl ?_
  iterate 2 refine ops_prim rfl (by simp (disch := omega) only [evalPrim, ↓ev_tmp, ↓ev_const, ↓put_at, ↓put_none, ↓reduceIte, Nat.reduceEqDiff, argT_zero, argT_succ, beq_self_eq_true]; try rfl) ?_
  refine ops_call rfl rfl (by simp (disch := omega) only [callOf, List.nil_append, List.append_nil, List.cons_append, List.map_cons, List.map_nil, ofConst, ofValue, evalPrim, ↓ev_tmp, ↓ev_const, ↓put_at, ↓put_none, ↓reduceIte, Nat.reduceEqDiff, argT_zero, argT_succ, beq_self_eq_true]; rfl) (by kernel_rfl) (by kernel_rfl) (skip_ok _ _ h) ?_
  iterate 2 refine ops_prim rfl (by simp (disch := omega) only [evalPrim, ↓ev_tmp, ↓ev_const, ↓put_at, ↓put_none, ↓reduceIte, Nat.reduceEqDiff, argT_zero, argT_succ, beq_self_eq_true]; try rfl) ?_
  refine ops_call rfl rfl (by simp (disch := omega) only [callOf, List.nil_append, List.append_nil, List.cons_append, List.map_cons, List.map_nil, ofConst, ofValue, evalPrim, ↓ev_tmp, ↓ev_const, ↓put_at, ↓put_none, ↓reduceIte, Nat.reduceEqDiff, argT_zero, argT_succ, beq_self_eq_true]; rfl) (by kernel_rfl) (by kernel_rfl) (refskip_ok _ _ h) ?_
  refine ops_prim rfl (by simp (disch := omega) only [evalPrim, ↓ev_tmp, ↓ev_const, ↓put_at, ↓put_none, ↓reduceIte, Nat.reduceEqDiff, argT_zero, argT_succ, tvBinT, tvBinT.nil2, tvBinT.ptr2, tvBin, intBin, ofConst, ofValue, Option.map_some, reduceCtorEq, if_true, if_false, beq_self_eq_true]; try rfl) ?_
  refine ops_prim rfl (by simp (disch := omega) only [evalPrim, ↓ev_tmp, ↓ev_const, ↓put_at, ↓put_none, ↓reduceIte, Nat.reduceEqDiff, argT_zero, argT_succ, beq_self_eq_true]; try rfl) ?_
  refine ops_yes 12 rfl rfl (by simp (disch := omega) only [evalPrim, ↓ev_tmp, ↓ev_const, ↓put_at, ↓put_none, ↓reduceIte, Nat.reduceEqDiff, argT_zero, argT_succ, Option.map_some, reduceCtorEq, if_true, if_false, beq_self_eq_true, bne_self_eq_false, Bool.not_true, Bool.not_false]; try rfl) ?_
  refine ops_call rfl rfl (by simp (disch := omega) only [callOf, List.nil_append, List.append_nil, List.cons_append, List.map_cons, List.map_nil, ofConst, ofValue, evalPrim, ↓ev_tmp, ↓ev_const, ↓put_at, ↓put_none, ↓reduceIte, Nat.reduceEqDiff, argT_zero, argT_succ, beq_self_eq_true]; rfl) (by kernel_rfl) (by kernel_rfl) (awake_ok) ?_
  refine ops_prim rfl (by simp (disch := omega) only [evalPrim, ↓ev_tmp, ↓ev_const, ↓put_at, ↓put_none, ↓reduceIte, Nat.reduceEqDiff, argT_zero, argT_succ, cond_true, cond_false, ofConst, ofValue, beq_self_eq_true]; try rfl) ?_
  refine ops_prim rfl (by simp (disch := omega) only [evalPrim, ↓ev_tmp, ↓ev_const, ↓put_at, ↓put_none, ↓reduceIte, Nat.reduceEqDiff, argT_zero, argT_succ, ofConst, ofValue, beq_self_eq_true]; try rfl) ?_
  refine ops_nil ?_
  dsimp only [Then, InBlock, ↓reduceIte]
  refine awp_ret ?_
  exact ⟨[.c (.bool true)], rfl, .c _ _ (.c _)⟩
end Go.Sim
