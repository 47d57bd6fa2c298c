/- A part of the proof: the walks of this law's functions. -/
import Derived.Test.YtgobcpfcekgcfaaD7
namespace Go.Sim
open Go Go.Proofs
set_option maxRecDepth 4000
set_option autoImplicit false
set_option linter.unusedSimpArgs false
theorem limited_ok (a b : Int) : CCall Try.prog 26 [.c (.int .i64 a), .c (.int .i64 b)] (.c (.int .i64 (mx 0 (mn a b)))) := ccall_run 40 (by kernel_rfl)
theorem limited_c (n : Int) : CCall Try.prog 26 [.c (.int .i64 n), .c (.int .i64 1000)] (.c (.int .i64 (cn n))) := limited_ok n 1000
theorem refshuffle_ok (d n : Int) (S0 : Store) : ACall Try.prog 18 [.c (.int .u64 d), .c (.int .i64 n)] S0 fun r S' =>
    r = .tup [.c (.int .u64 (shufOf d n).1), .view S0.next 0 0 (cn n).toNat] ∧ S' = S0.push (.cells 0 3 1 (ints (shufOf d n).2)) := by
  refine acall_intro Try.func18 Try.ntmps18 rfl (Nat.le_of_ble_eq_true rfl) ?_
  have hc0 := cn_range n
  refine awp_seq ?_
  refine awp_reg _ (by kernel_rfl) rfl ?_
  iterate 2 refine ops_prim rfl (by simp (disch := omega) only [evalPrim, ↓ev_tmp, ↓ev_const, ↓put_at, ↓put_none, ↓reduceIte, Nat.reduceEqDiff, argT_zero, argT_succ, ofConst, ofValue]; try rfl) ?_
  refine ops_nil ?_
  dsimp only [Then, InBlock, ↓reduceIte]
  refine awp_seq ?_
  refine awp_reg _ (by kernel_rfl) rfl ?_
  refine ops_prim rfl (by simp (disch := omega) only [evalPrim, ↓ev_tmp, ↓ev_const, ↓put_at, ↓put_none, ↓reduceIte, Nat.reduceEqDiff, argT_zero, argT_succ]; try rfl) ?_
  refine ops_call rfl rfl (by simp (disch := omega) only [callOf, List.nil_append, List.append_nil, List.cons_append, List.map_cons, List.map_nil, ofConst, ofValue, evalPrim, ↓ev_tmp, ↓ev_const, ↓put_at, ↓put_none, ↓reduceIte, Nat.reduceEqDiff, argT_zero, argT_succ]; rfl) (by kernel_rfl) (by kernel_rfl) (limited_c _) ?_
  refine ops_prim rfl (by simp (disch := omega) only [evalPrim, ↓ev_tmp, ↓ev_const, ↓put_at, ↓put_none, ↓reduceIte, Nat.reduceEqDiff, argT_zero, argT_succ, ofConst, ofValue]; try rfl) ?_
  refine ops_nil ?_
  dsimp only [Then, InBlock, ↓reduceIte]
  unfold shufOf
  obtain ⟨N, hN⟩ : ∃ N : Nat, cn n = (N : Int) := ⟨(cn n).toNat, by omega⟩
  rw [hN] at hc0 ⊢
  simp only [Int.toNat_natCast]
  refine awp_seq ?_
  refine awp_reg _ (by kernel_rfl) rfl ?_
  refine ops_prim rfl (by simp (disch := omega) only [evalPrim, ↓ev_tmp, ↓ev_const, ↓put_at, ↓put_none, ↓reduceIte, Nat.reduceEqDiff, argT_zero, argT_succ, Try.underlying29, sz3, by3, zero3, if_pos, zrow_ints, Nat.mul_one, Int.toNat_natCast]; try rfl) ?_
  refine ops_prim rfl (by simp (disch := omega) only [evalPrim, ↓ev_tmp, ↓ev_const, ↓put_at, ↓put_none, ↓reduceIte, Nat.reduceEqDiff, argT_zero, argT_succ, tvMake, ofConst, ofValue, List.length_cons, List.length_nil, Nat.reduceAdd, Nat.reduceLT, and_true, Option.map_some, reduceCtorEq, if_true, if_false, Try.underlying29, sz3, by3, zero3, if_pos, zrow_ints, Nat.mul_one, Int.toNat_natCast]; try rfl) ?_
  refine ops_prim rfl (by simp (disch := omega) only [evalPrim, ↓ev_tmp, ↓ev_const, ↓put_at, ↓put_none, ↓reduceIte, Nat.reduceEqDiff, argT_zero, argT_succ, ofConst, ofValue, Try.underlying29, sz3, by3, zero3, if_pos, zrow_ints, Nat.mul_one, Int.toNat_natCast]; try rfl) ?_
  refine ops_nil ?_
  dsimp only [Then, InBlock, ↓reduceIte]
  refine awp_seq ?_
  refine awp_seq ?_
  refine awp_reg _ (by kernel_rfl) rfl ?_
  refine ops_prim rfl (by simp (disch := omega) only [evalPrim, ↓ev_tmp, ↓ev_const, ↓put_at, ↓put_none, ↓reduceIte, Nat.reduceEqDiff, argT_zero, argT_succ, ofConst, ofValue]; try rfl) ?_
  refine ops_nil ?_
  dsimp only [Then, InBlock, ↓reduceIte]
  refine awp_block ?_
  refine awp_loop (fun k T S => ∃ (i : Nat) (l : List Int), k = N - i ∧ i ≤ N ∧ T 0 = .c (.int .u64 d) ∧ T 1 = .c (.int .i64 N) ∧ T 6 = .view S0.next 0 0 N ∧ T 7 = .c (.int .i64 i) ∧
    S = S0.push (.cells 0 3 1 (ints l)) ∧ l.length = N ∧ ∀ k, k < i → l.getD k 0 = k) N ⟨0, List.replicate N 0, rfl, by omega, rfl, rfl, rfl, rfl, rfl, by simp, fun k hk => by omega⟩ ?_
  rintro k T S ⟨i, l, rfl, hi, h0, h1, h6, h7, rfl, hl, hk⟩
  refine awp_seq ?_
  refine awp_seq ?_
  refine awp_reg _ (by kernel_rfl) rfl ?_
  iterate 2 refine ops_prim rfl (by simp (disch := omega) only [evalPrim, ↓ev_tmp, ↓ev_const, ↓put_at, ↓put_none, ↓reduceIte, Nat.reduceEqDiff, argT_zero, argT_succ, h1, h7]; try rfl) ?_
  refine ops_prim rfl (by simp (disch := omega) only [evalPrim, ↓ev_tmp, ↓ev_const, ↓put_at, ↓put_none, ↓reduceIte, Nat.reduceEqDiff, argT_zero, argT_succ, tvBinT, tvBinT.nil2, tvBinT.ptr2, tvBin, intBin, ofConst, ofValue, Option.map_some, reduceCtorEq, if_true, if_false, h1, h7]; try rfl) ?_
  refine ops_nil ?_
  dsimp only [Then, InBlock, ↓reduceIte]
  refine awp_ifc (by simp (disch := omega) only [evalPrim, ↓ev_tmp, ↓ev_const, ↓put_at, ↓put_none, ↓reduceIte, Nat.reduceEqDiff, argT_zero, argT_succ, Option.map_some, reduceCtorEq, if_true, if_false]; try rfl) (fun hc => ?_) (fun hc => ?_)
  · simp only [decide_eq_true_eq] at hc
    refine awp_skip ?_
    dsimp only [Then, InBlock]
    refine awp_seq ?_
    refine awp_block ?_
    refine awp_reg _ (by kernel_rfl) rfl ?_
    iterate 3 refine ops_prim rfl (by simp (disch := omega) only [evalPrim, ↓ev_tmp, ↓ev_const, ↓put_at, ↓put_none, ↓reduceIte, Nat.reduceEqDiff, argT_zero, argT_succ, h6, h7, Try.underlying29, sz3, agg3, if_pos, Nat.mul_one, Nat.zero_add, ints_len, ints_get, splice_ints, push_set, at_push_self, Int.toNat_natCast, Option.map_some]; try rfl) ?_
    refine ops_prim rfl (by simp (disch := omega) only [evalPrim, ↓ev_tmp, ↓ev_const, ↓put_at, ↓put_none, ↓reduceIte, Nat.reduceEqDiff, argT_zero, argT_succ, tvIndexAddr, ofConst, ofValue, Option.map_some, reduceCtorEq, if_true, if_false, h6, h7, Try.underlying29, sz3, agg3, if_pos, Nat.mul_one, Nat.zero_add, ints_len, ints_get, splice_ints, push_set, at_push_self, Int.toNat_natCast]; try rfl) ?_
    refine ops_prim rfl (by simp (disch := omega) only [evalPrim, ↓ev_tmp, ↓ev_const, ↓put_at, ↓put_none, ↓reduceIte, Nat.reduceEqDiff, argT_zero, argT_succ, tvStore, ofConst, ofValue, cellsOf, at_set_same, at_pushed, List.length_cons, List.length_nil, Nat.reduceAdd, Nat.reduceLeDiff, Nat.zero_add, Nat.le_refl, List.all_cons, List.all_nil, TV.one, Bool.and_true, Bool.and_self, and_true, true_and, and_self, Option.map_some, reduceCtorEq, if_true, if_false, h6, h7, Try.underlying29, sz3, agg3, if_pos, Nat.mul_one, ints_len, ints_get, splice_ints, push_set, at_push_self, Int.toNat_natCast]; try rfl) ?_
    refine ops_nil ?_
    dsimp only [Then, InBlock, ↓reduceIte]
    refine awp_reg _ (by kernel_rfl) rfl ?_
    refine ops_prim rfl (by simp (disch := omega) only [evalPrim, ↓ev_tmp, ↓ev_const, ↓put_at, ↓put_none, ↓reduceIte, Nat.reduceEqDiff, argT_zero, argT_succ, h7]; try rfl) ?_
    refine ops_prim rfl (by simp (disch := omega) only [evalPrim, ↓ev_tmp, ↓ev_const, ↓put_at, ↓put_none, ↓reduceIte, Nat.reduceEqDiff, argT_zero, argT_succ, tvBinT, tvBinT.nil2, tvBinT.ptr2, tvBin, intBin, ofConst, ofValue, Option.map_some, reduceCtorEq, if_true, if_false, h7]; try rfl) ?_
    refine ops_prim rfl (by simp (disch := omega) only [evalPrim, ↓ev_tmp, ↓ev_const, ↓put_at, ↓put_none, ↓reduceIte, Nat.reduceEqDiff, argT_zero, argT_succ, ofConst, ofValue, h7]; try rfl) ?_
    refine ops_nil ?_
    dsimp only [Then, InBlock, ↓reduceIte]
    refine ⟨N - (i + 1), by omega, i + 1, l.set i (i : Int), rfl, by omega, h0, h1, h6, ?_, rfl, by simp [hl], set_iota (by omega) hk⟩
    simp (disch := omega) only [evalPrim, ↓ev_tmp, ↓ev_const, ↓put_at, ↓put_none, ↓reduceIte, Nat.reduceEqDiff, argT_zero, argT_succ, Option.map_some, reduceCtorEq, if_true, if_false, at_set_same, at_pushed, next_push, next_set, next_empty, h7]
    rw [wr64 (by omega)]
    rfl
  · simp only [decide_eq_false_iff_not] at hc
    have hiN : i = N := by omega
    subst hiN
    have hli : l = iota i := iota_of hl hk
    subst hli
    refine awp_exit ?_
    dsimp only [Then, InBlock]
    refine Eq.mpr (if_pos rfl) ?_
    refine awp_seq ?_
    refine awp_seq ?_
    have w1 : IntKind.wrap .i64 ((i : Int) - 1) = (i : Int) - 1 := wr64 (by omega)
    refine awp_reg _ (by kernel_rfl) rfl ?_
    refine ops_prim rfl (by simp (disch := omega) only [evalPrim, ↓ev_tmp, ↓ev_const, ↓put_at, ↓put_none, ↓reduceIte, Nat.reduceEqDiff, argT_zero, argT_succ, h1, w1]; try rfl) ?_
    refine ops_prim rfl (by simp (disch := omega) only [evalPrim, ↓ev_tmp, ↓ev_const, ↓put_at, ↓put_none, ↓reduceIte, Nat.reduceEqDiff, argT_zero, argT_succ, tvBinT, tvBinT.nil2, tvBinT.ptr2, tvBin, intBin, ofConst, ofValue, Option.map_some, reduceCtorEq, if_true, if_false, h1, w1]; try rfl) ?_
    refine ops_prim rfl (by simp (disch := omega) only [evalPrim, ↓ev_tmp, ↓ev_const, ↓put_at, ↓put_none, ↓reduceIte, Nat.reduceEqDiff, argT_zero, argT_succ, ofConst, ofValue, h1, w1]; try rfl) ?_
    refine ops_nil ?_
    dsimp only [Then, InBlock, ↓reduceIte]
    refine awp_block ?_
    refine awp_loop (fun k T S => ∃ (j d' : Int) (l : List Int), k = j.toNat ∧ j ≤ (i : Int) - 1 ∧ T 0 = .c (.int .u64 d') ∧ T 6 = .view S0.next 0 0 i ∧ T 8 = .c (.int .i64 j) ∧
      S = S0.push (.cells 0 3 1 (ints l)) ∧ l.length = i ∧ shuf j.toNat d' l = shuf (i - 1) d (iota i)) (i - 1) ⟨(i : Int) - 1, d, iota i, by omega, by omega, h0, h6, rfl, rfl, by simp [iota], by congr 1; omega⟩ ?_
    clear h0 h1 h6 h7
    rintro k T S ⟨j, d', l, rfl, hj, h0, h6, h8, rfl, hl, hs⟩
    refine awp_seq ?_
    refine awp_seq ?_
    refine awp_reg _ (by kernel_rfl) rfl ?_
    refine ops_prim rfl (by simp (disch := omega) only [evalPrim, ↓ev_tmp, ↓ev_const, ↓put_at, ↓put_none, ↓reduceIte, Nat.reduceEqDiff, argT_zero, argT_succ, h8]; try rfl) ?_
    refine ops_prim rfl (by simp (disch := omega) only [evalPrim, ↓ev_tmp, ↓ev_const, ↓put_at, ↓put_none, ↓reduceIte, Nat.reduceEqDiff, argT_zero, argT_succ, tvBinT, tvBinT.nil2, tvBinT.ptr2, tvBin, intBin, ofConst, ofValue, Option.map_some, reduceCtorEq, if_true, if_false, h8]; try rfl) ?_
    refine ops_nil ?_
    dsimp only [Then, InBlock, ↓reduceIte]
    refine awp_ifc (by simp (disch := omega) only [evalPrim, ↓ev_tmp, ↓ev_const, ↓put_at, ↓put_none, ↓reduceIte, Nat.reduceEqDiff, argT_zero, argT_succ, Option.map_some, reduceCtorEq, if_true, if_false]; try rfl) (fun hc => ?_) (fun hc => ?_)
    · simp only [decide_eq_true_eq] at hc
      obtain ⟨m, rfl⟩ : ∃ m : Nat, j = (m : Int) + 1 := ⟨(j - 1).toNat, by omega⟩
      have w2 : IntKind.wrap .i64 ((m : Int) + 1 + 1) = (m : Int) + 2 := by rw [wr64 (by omega)]; omega
      have w3 : IntKind.wrap .i64 ((m : Int) + 1 - 1) = (m : Int) := by rw [wr64 (by omega)]; omega
      have hb := bk_range d' ((m : Int) + 2) (by omega)
      have t1 : ((m : Int) + 1).toNat = m + 1 := by omega
      rw [t1] at hs
      have hls : (l.set (m + 1) (l.getD (bk d' ((m : Int) + 2)).toNat 0)).length = i := by simp [hl]
      refine awp_skip ?_
      dsimp only [Then, InBlock]
      refine awp_seq ?_
      refine awp_block ?_
      refine awp_seq ?_
      refine awp_reg _ (by kernel_rfl) rfl ?_
      iterate 2 refine ops_prim rfl (by simp (disch := omega) only [evalPrim, ↓ev_tmp, ↓ev_const, ↓put_at, ↓put_none, ↓reduceIte, Nat.reduceEqDiff, argT_zero, argT_succ, h0, h8, w2]; try rfl) ?_
      refine ops_prim rfl (by simp (disch := omega) only [evalPrim, ↓ev_tmp, ↓ev_const, ↓put_at, ↓put_none, ↓reduceIte, Nat.reduceEqDiff, argT_zero, argT_succ, tvBinT, tvBinT.nil2, tvBinT.ptr2, tvBin, intBin, ofConst, ofValue, Option.map_some, reduceCtorEq, if_true, if_false, h0, h8, w2]; try rfl) ?_
      refine ops_call rfl rfl (by simp (disch := omega) only [callOf, List.nil_append, List.append_nil, List.cons_append, List.map_cons, List.map_nil, ofConst, ofValue, evalPrim, ↓ev_tmp, ↓ev_const, ↓put_at, ↓put_none, ↓reduceIte, Nat.reduceEqDiff, argT_zero, argT_succ, h0, h8, w2]; rfl) (by kernel_rfl) (by kernel_rfl) (refbelow_ok _ _) ?_
      refine ops_prim rfl (by simp (disch := omega) only [evalPrim, ↓ev_tmp, ↓ev_const, ↓put_at, ↓put_none, ↓reduceIte, Nat.reduceEqDiff, argT_zero, argT_succ, h0, h8, w2]; try rfl) ?_
      iterate 2 refine ops_prim rfl (by simp (disch := omega) only [evalPrim, ↓ev_tmp, ↓ev_const, ↓put_at, ↓put_none, ↓reduceIte, Nat.reduceEqDiff, argT_zero, argT_succ, tvExtract, List.getElem?_cons_zero, List.getElem?_cons_succ, Option.map_some, reduceCtorEq, if_true, if_false, h0, h8, w2]; try rfl) ?_
      iterate 2 refine ops_prim rfl (by simp (disch := omega) only [evalPrim, ↓ev_tmp, ↓ev_const, ↓put_at, ↓put_none, ↓reduceIte, Nat.reduceEqDiff, argT_zero, argT_succ, ofConst, ofValue, h0, h8, w2]; try rfl) ?_
      refine ops_nil ?_
      dsimp only [Then, InBlock, ↓reduceIte]
      refine awp_seq ?_
      refine awp_reg _ (by kernel_rfl) rfl ?_
      refine ops_prim rfl (by simp (disch := omega) only [evalPrim, ↓ev_tmp, ↓ev_const, ↓put_at, ↓put_none, ↓reduceIte, Nat.reduceEqDiff, argT_zero, argT_succ]; try rfl) ?_
      refine ops_prim rfl (by simp (disch := omega) only [evalPrim, ↓ev_tmp, ↓ev_const, ↓put_at, ↓put_none, ↓reduceIte, Nat.reduceEqDiff, argT_zero, argT_succ, ofConst, ofValue]; try rfl) ?_
      refine ops_nil ?_
      dsimp only [Then, InBlock, ↓reduceIte]
      refine awp_seq ?_
      refine awp_reg _ (by kernel_rfl) rfl ?_
      iterate 2 refine ops_prim rfl (by simp (disch := omega) only [evalPrim, ↓ev_tmp, ↓ev_const, ↓put_at, ↓put_none, ↓reduceIte, Nat.reduceEqDiff, argT_zero, argT_succ, h6, h8, t1, Try.underlying29, sz3, agg3, if_pos, Nat.mul_one, Nat.zero_add, ints_len, ints_get, splice_ints, push_set, at_push_self, Int.toNat_natCast, Option.map_some]; try rfl) ?_
      refine ops_prim rfl (by simp (disch := omega) only [evalPrim, ↓ev_tmp, ↓ev_const, ↓put_at, ↓put_none, ↓reduceIte, Nat.reduceEqDiff, argT_zero, argT_succ, tvIndexAddr, ofConst, ofValue, Option.map_some, reduceCtorEq, if_true, if_false, h6, h8, t1, Try.underlying29, sz3, agg3, if_pos, Nat.mul_one, Nat.zero_add, ints_len, ints_get, splice_ints, push_set, at_push_self, Int.toNat_natCast]; try rfl) ?_
      refine ops_prim rfl (by simp (disch := omega) only [evalPrim, ↓ev_tmp, ↓ev_const, ↓put_at, ↓put_none, ↓reduceIte, Nat.reduceEqDiff, argT_zero, argT_succ, tvLoad, at_set_same, at_pushed, List.length_cons, List.length_nil, Nat.reduceAdd, Nat.reduceLeDiff, Nat.zero_add, Nat.le_refl, List.drop_zero, List.drop_succ_cons, List.take_succ_cons, List.take_zero, List.getElem?_cons_zero, List.getElem?_cons_succ, Bool.false_eq_true, Option.map_some, reduceCtorEq, if_true, if_false, h6, h8, t1, Try.underlying29, sz3, agg3, if_pos, Nat.mul_one, ints_len, ints_get, splice_ints, push_set, at_push_self, Int.toNat_natCast]; try rfl) ?_
      refine ops_prim rfl (by simp (disch := omega) only [evalPrim, ↓ev_tmp, ↓ev_const, ↓put_at, ↓put_none, ↓reduceIte, Nat.reduceEqDiff, argT_zero, argT_succ, ofConst, ofValue, h6, h8, t1, Try.underlying29, sz3, agg3, if_pos, Nat.mul_one, Nat.zero_add, ints_len, ints_get, splice_ints, push_set, at_push_self, Int.toNat_natCast, Option.map_some]; try rfl) ?_
      refine ops_nil ?_
      dsimp only [Then, InBlock, ↓reduceIte]
      refine awp_seq ?_
      refine awp_reg _ (by kernel_rfl) rfl ?_
      iterate 4 refine ops_prim rfl (by simp (disch := omega) only [evalPrim, ↓ev_tmp, ↓ev_const, ↓put_at, ↓put_none, ↓reduceIte, Nat.reduceEqDiff, argT_zero, argT_succ, h6, h8, t1, Try.underlying29, sz3, agg3, if_pos, Nat.mul_one, Nat.zero_add, ints_len, ints_get, splice_ints, push_set, at_push_self, Int.toNat_natCast, Option.map_some]; try rfl) ?_
      refine ops_prim rfl (by simp (disch := omega) only [evalPrim, ↓ev_tmp, ↓ev_const, ↓put_at, ↓put_none, ↓reduceIte, Nat.reduceEqDiff, argT_zero, argT_succ, tvIndexAddr, ofConst, ofValue, Option.map_some, reduceCtorEq, if_true, if_false, h6, h8, t1, Try.underlying29, sz3, agg3, if_pos, Nat.mul_one, Nat.zero_add, ints_len, ints_get, splice_ints, push_set, at_push_self, Int.toNat_natCast]; try rfl) ?_
      refine ops_prim rfl (by simp (disch := omega) only [evalPrim, ↓ev_tmp, ↓ev_const, ↓put_at, ↓put_none, ↓reduceIte, Nat.reduceEqDiff, argT_zero, argT_succ, tvLoad, at_set_same, at_pushed, List.length_cons, List.length_nil, Nat.reduceAdd, Nat.reduceLeDiff, Nat.zero_add, Nat.le_refl, List.drop_zero, List.drop_succ_cons, List.take_succ_cons, List.take_zero, List.getElem?_cons_zero, List.getElem?_cons_succ, Bool.false_eq_true, Option.map_some, reduceCtorEq, if_true, if_false, h6, h8, t1, Try.underlying29, sz3, agg3, if_pos, Nat.mul_one, ints_len, ints_get, splice_ints, push_set, at_push_self, Int.toNat_natCast]; try rfl) ?_
      refine ops_prim rfl (by simp (disch := omega) only [evalPrim, ↓ev_tmp, ↓ev_const, ↓put_at, ↓put_none, ↓reduceIte, Nat.reduceEqDiff, argT_zero, argT_succ, tvIndexAddr, ofConst, ofValue, Option.map_some, reduceCtorEq, if_true, if_false, h6, h8, t1, Try.underlying29, sz3, agg3, if_pos, Nat.mul_one, Nat.zero_add, ints_len, ints_get, splice_ints, push_set, at_push_self, Int.toNat_natCast]; try rfl) ?_
      refine ops_prim rfl (by simp (disch := omega) only [evalPrim, ↓ev_tmp, ↓ev_const, ↓put_at, ↓put_none, ↓reduceIte, Nat.reduceEqDiff, argT_zero, argT_succ, tvStore, ofConst, ofValue, cellsOf, at_set_same, at_pushed, List.length_cons, List.length_nil, Nat.reduceAdd, Nat.reduceLeDiff, Nat.zero_add, Nat.le_refl, List.all_cons, List.all_nil, TV.one, Bool.and_true, Bool.and_self, and_true, true_and, and_self, Option.map_some, reduceCtorEq, if_true, if_false, h6, h8, t1, Try.underlying29, sz3, agg3, if_pos, Nat.mul_one, ints_len, ints_get, splice_ints, push_set, at_push_self, Int.toNat_natCast]; try rfl) ?_
      refine ops_nil ?_
      dsimp only [Then, InBlock, ↓reduceIte]
      refine awp_reg _ (by kernel_rfl) rfl ?_
      iterate 3 refine ops_prim rfl (by simp (disch := omega) only [evalPrim, ↓ev_tmp, ↓ev_const, ↓put_at, ↓put_none, ↓reduceIte, Nat.reduceEqDiff, argT_zero, argT_succ, h6, h8, t1, Try.underlying29, sz3, agg3, if_pos, Nat.mul_one, Nat.zero_add, ints_len, ints_get, splice_ints, push_set, at_push_self, Int.toNat_natCast, Option.map_some]; try rfl) ?_
      refine ops_prim rfl (by simp (disch := omega) only [evalPrim, ↓ev_tmp, ↓ev_const, ↓put_at, ↓put_none, ↓reduceIte, Nat.reduceEqDiff, argT_zero, argT_succ, tvIndexAddr, ofConst, ofValue, Option.map_some, reduceCtorEq, if_true, if_false, h6, h8, t1, Try.underlying29, sz3, agg3, if_pos, Nat.mul_one, Nat.zero_add, ints_len, ints_get, splice_ints, push_set, at_push_self, Int.toNat_natCast]; try rfl) ?_
      refine ops_prim rfl (by simp (disch := omega) only [evalPrim, ↓ev_tmp, ↓ev_const, ↓put_at, ↓put_none, ↓reduceIte, Nat.reduceEqDiff, argT_zero, argT_succ, tvStore, ofConst, ofValue, cellsOf, at_set_same, at_pushed, List.length_cons, List.length_nil, Nat.reduceAdd, Nat.reduceLeDiff, Nat.zero_add, Nat.le_refl, List.all_cons, List.all_nil, TV.one, Bool.and_true, Bool.and_self, and_true, true_and, and_self, Option.map_some, reduceCtorEq, if_true, if_false, h6, h8, t1, Try.underlying29, sz3, agg3, if_pos, Nat.mul_one, ints_len, ints_get, splice_ints, push_set, at_push_self, Int.toNat_natCast]; try rfl) ?_
      refine ops_nil ?_
      dsimp only [Then, InBlock, ↓reduceIte]
      refine awp_reg _ (by kernel_rfl) rfl ?_
      refine ops_prim rfl (by simp (disch := omega) only [evalPrim, ↓ev_tmp, ↓ev_const, ↓put_at, ↓put_none, ↓reduceIte, Nat.reduceEqDiff, argT_zero, argT_succ, h8, w3]; try rfl) ?_
      refine ops_prim rfl (by simp (disch := omega) only [evalPrim, ↓ev_tmp, ↓ev_const, ↓put_at, ↓put_none, ↓reduceIte, Nat.reduceEqDiff, argT_zero, argT_succ, tvBinT, tvBinT.nil2, tvBinT.ptr2, tvBin, intBin, ofConst, ofValue, Option.map_some, reduceCtorEq, if_true, if_false, h8, w3]; try rfl) ?_
      refine ops_prim rfl (by simp (disch := omega) only [evalPrim, ↓ev_tmp, ↓ev_const, ↓put_at, ↓put_none, ↓reduceIte, Nat.reduceEqDiff, argT_zero, argT_succ, ofConst, ofValue, h8, w3]; try rfl) ?_
      refine ops_nil ?_
      dsimp only [Then, InBlock, ↓reduceIte]
      exact ⟨m, by omega, (m : Int), nx d', swap l (m + 1) (bk d' ((m : Int) + 2)).toNat, by omega, by omega, rfl, h6, rfl, rfl, by rw [swap_len]; exact hl, hs⟩
    · simp only [decide_eq_false_iff_not] at hc
      have hj0 : j.toNat = 0 := by omega
      rw [hj0] at hs
      have hs' : shuf (i - 1) d (iota i) = (d', l) := hs.symm
      rw [hs']
      refine awp_exit ?_
      dsimp only [Then, InBlock]
      refine Eq.mpr (if_pos rfl) ?_
      refine awp_seq ?_
      refine awp_reg _ (by kernel_rfl) rfl ?_
      iterate 2 refine ops_prim rfl (by simp (disch := omega) only [evalPrim, ↓ev_tmp, ↓ev_const, ↓put_at, ↓put_none, ↓reduceIte, Nat.reduceEqDiff, argT_zero, argT_succ, h0, h6]; try rfl) ?_
      iterate 2 refine ops_prim rfl (by simp (disch := omega) only [evalPrim, ↓ev_tmp, ↓ev_const, ↓put_at, ↓put_none, ↓reduceIte, Nat.reduceEqDiff, argT_zero, argT_succ, ofConst, ofValue, h0, h6]; try rfl) ?_
      refine ops_nil ?_
      dsimp only [Then, InBlock, ↓reduceIte]
      refine awp_ret ?_
      exact ⟨[.c (.int .u64 d'), .view S0.next 0 0 i], rfl, rfl, rfl⟩
theorem refshuffle_c (d n : Int) : CCall Try.prog 18 [.c (.int .u64 d), .c (.int .i64 n)] (shufV d n) :=
  ccall_of (by simp [Closed.c]) ((refshuffle_ok d n Store.empty).mono fun _ _ h => shuf_frz d n h)

theorem same_ok (l : List Int) (hlen : l.length ≤ 1000000) : CCall Try.prog 19 [.c (.sl l.length (intsC l)), .c (.sl l.length (intsC l))] (.c (.bool true)) := by
  refine ccall_intro Try.func19 Try.ntmps19 rfl (Nat.le_of_ble_eq_true rfl) (by simp [Closed.c]) ?_
  refine awp_seq ?_
  refine awp_reg _ (by kernel_rfl) rfl ?_
  refine ops_prim rfl (by simp (disch := omega) only [evalPrim, ↓ev_tmp, ↓ev_const, ↓put_at, ↓put_none, ↓reduceIte, Nat.reduceEqDiff, argT_zero, argT_succ, ofConst, ofValue]; try rfl) ?_
  refine ops_nil ?_
  dsimp only [Then, InBlock, ↓reduceIte]
  refine awp_seq ?_
  refine awp_seq ?_
  refine awp_reg _ (by kernel_rfl) rfl ?_
  refine ops_prim rfl (by simp (disch := omega) only [evalPrim, ↓ev_tmp, ↓ev_const, ↓put_at, ↓put_none, ↓reduceIte, Nat.reduceEqDiff, argT_zero, argT_succ, Try.underlying29, bne_self_eq_false]; try rfl) ?_
  refine ops_prim rfl (by simp (disch := omega) only [evalPrim, ↓ev_tmp, ↓ev_const, ↓put_at, ↓put_none, ↓reduceIte, Nat.reduceEqDiff, argT_zero, argT_succ, tvLen, tvMax, tvMin, tvFold, tvAppend, srcOf, List.map_cons, List.map_nil, ofConst, ofValue, Option.map_some, reduceCtorEq, if_true, if_false, Try.underlying29, bne_self_eq_false]; try rfl) ?_
  refine ops_prim rfl (by simp (disch := omega) only [evalPrim, ↓ev_tmp, ↓ev_const, ↓put_at, ↓put_none, ↓reduceIte, Nat.reduceEqDiff, argT_zero, argT_succ, Try.underlying29, bne_self_eq_false]; try rfl) ?_
  refine ops_prim rfl (by simp (disch := omega) only [evalPrim, ↓ev_tmp, ↓ev_const, ↓put_at, ↓put_none, ↓reduceIte, Nat.reduceEqDiff, argT_zero, argT_succ, tvLen, tvMax, tvMin, tvFold, tvAppend, srcOf, List.map_cons, List.map_nil, ofConst, ofValue, Option.map_some, reduceCtorEq, if_true, if_false, Try.underlying29, bne_self_eq_false]; try rfl) ?_
  refine ops_prim rfl (by simp (disch := omega) only [evalPrim, ↓ev_tmp, ↓ev_const, ↓put_at, ↓put_none, ↓reduceIte, Nat.reduceEqDiff, argT_zero, argT_succ, tvBinT, tvBinT.nil2, tvBinT.ptr2, tvBin, intBin, ofConst, ofValue, Option.map_some, reduceCtorEq, if_true, if_false, Try.underlying29, bne_self_eq_false]; try rfl) ?_
  refine ops_nil ?_
  dsimp only [Then, InBlock, ↓reduceIte]
  refine awp_ifc (by simp (disch := omega) only [evalPrim, ↓ev_tmp, ↓ev_const, ↓put_at, ↓put_none, ↓reduceIte, Nat.reduceEqDiff, argT_zero, argT_succ, Option.map_some, reduceCtorEq, if_true, if_false]; try rfl) (fun hc => ?_) (fun hc => ?_)
  · simp at hc
  · refine awp_skip ?_
    dsimp only [Then, InBlock]
    refine awp_seq ?_
    refine awp_seq ?_
    refine awp_reg _ (by kernel_rfl) rfl ?_
    refine ops_prim rfl (by simp (disch := omega) only [evalPrim, ↓ev_tmp, ↓ev_const, ↓put_at, ↓put_none, ↓reduceIte, Nat.reduceEqDiff, argT_zero, argT_succ, ofConst, ofValue]; try rfl) ?_
    refine ops_nil ?_
    dsimp only [Then, InBlock, ↓reduceIte]
    refine awp_block ?_
    refine awp_loop (fun k T S => ∃ i : Nat, k = l.length - i ∧ i ≤ l.length ∧ T 0 = .c (.sl l.length (intsC l)) ∧ T 1 = .c (.sl l.length (intsC l)) ∧ T 5 = .c (.int .i64 i)) l.length ⟨0, rfl, by omega, rfl, rfl, rfl⟩ ?_
    rintro k T S ⟨i, rfl, hi, h0, h1, h5⟩
    refine awp_seq ?_
    refine awp_seq ?_
    refine awp_reg _ (by kernel_rfl) rfl ?_
    iterate 2 refine ops_prim rfl (by simp (disch := omega) only [evalPrim, ↓ev_tmp, ↓ev_const, ↓put_at, ↓put_none, ↓reduceIte, Nat.reduceEqDiff, argT_zero, argT_succ, h0, h5, Try.underlying29]; try rfl) ?_
    refine ops_prim rfl (by simp (disch := omega) only [evalPrim, ↓ev_tmp, ↓ev_const, ↓put_at, ↓put_none, ↓reduceIte, Nat.reduceEqDiff, argT_zero, argT_succ, tvLen, tvMax, tvMin, tvFold, tvAppend, srcOf, List.map_cons, List.map_nil, ofConst, ofValue, Option.map_some, reduceCtorEq, if_true, if_false, h0, h5, Try.underlying29]; try rfl) ?_
    refine ops_prim rfl (by simp (disch := omega) only [evalPrim, ↓ev_tmp, ↓ev_const, ↓put_at, ↓put_none, ↓reduceIte, Nat.reduceEqDiff, argT_zero, argT_succ, tvBinT, tvBinT.nil2, tvBinT.ptr2, tvBin, intBin, ofConst, ofValue, Option.map_some, reduceCtorEq, if_true, if_false, h0, h5, Try.underlying29]; try rfl) ?_
    refine ops_nil ?_
    dsimp only [Then, InBlock, ↓reduceIte]
    refine awp_ifc (by simp (disch := omega) only [evalPrim, ↓ev_tmp, ↓ev_const, ↓put_at, ↓put_none, ↓reduceIte, Nat.reduceEqDiff, argT_zero, argT_succ, Option.map_some, reduceCtorEq, if_true, if_false]; try rfl) (fun hc => ?_) (fun hc => ?_)
    · simp only [decide_eq_true_eq] at hc
      refine awp_skip ?_
      dsimp only [Then, InBlock]
      refine awp_seq ?_
      refine awp_block ?_
      refine awp_seq ?_
      refine awp_regD _ (by kernel_rfl) (by kernel_rfl) (by kernel_rfl) rfl ?_
      iterate 2 refine opd_prim rfl (by simp (disch := omega) only [evalPrim, ↓ev_tmp, ↓ev_const, ↓put_at, ↓put_none, ↓reduceIte, Nat.reduceEqDiff, argT_zero, argT_succ, h0, h1, h5, Try.underlying29, Try.underlying3, sz3, agg3, if_pos, Nat.mul_one, Int.toNat_natCast, intsC_get, bne_self_eq_false]; try rfl) ?_
      refine opd_prim rfl (by simp (disch := omega) only [evalPrim, ↓ev_tmp, ↓ev_const, ↓put_at, ↓put_none, ↓reduceIte, Nat.reduceEqDiff, argT_zero, argT_succ, tvIndexAddr, ofConst, ofValue, Option.map_some, reduceCtorEq, if_true, if_false, h0, h1, h5, Try.underlying29, Try.underlying3, sz3, agg3, if_pos, Nat.mul_one, Int.toNat_natCast, intsC_get, bne_self_eq_false]; try rfl) ?_
      refine opd_prim rfl (by simp (disch := omega) only [evalPrim, ↓ev_tmp, ↓ev_const, ↓put_at, ↓put_none, ↓reduceIte, Nat.reduceEqDiff, argT_zero, argT_succ, tvLoad, at_set_same, at_pushed, List.length_cons, List.length_nil, Nat.reduceAdd, Nat.reduceLeDiff, Nat.zero_add, Nat.le_refl, List.drop_zero, List.drop_succ_cons, List.take_succ_cons, List.take_zero, List.getElem?_cons_zero, List.getElem?_cons_succ, Bool.false_eq_true, Option.map_some, reduceCtorEq, if_true, if_false, h0, h1, h5, Try.underlying29, Try.underlying3, sz3, agg3, if_pos, Nat.mul_one, Int.toNat_natCast, intsC_get, bne_self_eq_false]; try rfl) ?_
      iterate 2 refine opd_prim rfl (by simp (disch := omega) only [evalPrim, ↓ev_tmp, ↓ev_const, ↓put_at, ↓put_none, ↓reduceIte, Nat.reduceEqDiff, argT_zero, argT_succ, h0, h1, h5, Try.underlying29, Try.underlying3, sz3, agg3, if_pos, Nat.mul_one, Int.toNat_natCast, intsC_get, bne_self_eq_false]; try rfl) ?_
      refine opd_prim rfl (by simp (disch := omega) only [evalPrim, ↓ev_tmp, ↓ev_const, ↓put_at, ↓put_none, ↓reduceIte, Nat.reduceEqDiff, argT_zero, argT_succ, tvIndexAddr, ofConst, ofValue, Option.map_some, reduceCtorEq, if_true, if_false, h0, h1, h5, Try.underlying29, Try.underlying3, sz3, agg3, if_pos, Nat.mul_one, Int.toNat_natCast, intsC_get, bne_self_eq_false]; try rfl) ?_
      refine opd_prim rfl (by simp (disch := omega) only [evalPrim, ↓ev_tmp, ↓ev_const, ↓put_at, ↓put_none, ↓reduceIte, Nat.reduceEqDiff, argT_zero, argT_succ, tvLoad, at_set_same, at_pushed, List.length_cons, List.length_nil, Nat.reduceAdd, Nat.reduceLeDiff, Nat.zero_add, Nat.le_refl, List.drop_zero, List.drop_succ_cons, List.take_succ_cons, List.take_zero, List.getElem?_cons_zero, List.getElem?_cons_succ, Bool.false_eq_true, Option.map_some, reduceCtorEq, if_true, if_false, h0, h1, h5, Try.underlying29, Try.underlying3, sz3, agg3, if_pos, Nat.mul_one, Int.toNat_natCast, intsC_get, bne_self_eq_false]; try rfl) ?_
      refine opd_prim rfl (by simp (disch := omega) only [evalPrim, ↓ev_tmp, ↓ev_const, ↓put_at, ↓put_none, ↓reduceIte, Nat.reduceEqDiff, argT_zero, argT_succ, tvBinT, tvBinT.nil2, tvBinT.ptr2, tvBin, intBin, ofConst, ofValue, Option.map_some, reduceCtorEq, if_true, if_false, h0, h1, h5, Try.underlying29, Try.underlying3, sz3, agg3, if_pos, Nat.mul_one, Int.toNat_natCast, intsC_get, bne_self_eq_false]; try rfl) ?_
      refine opd_nil ?_
      dsimp only [Then, InBlock, ↓reduceIte]
      refine awp_ifc (by simp (disch := omega) only [evalPrim, ↓ev_tmp, ↓ev_const, ↓put_at, ↓put_none, ↓reduceIte, Nat.reduceEqDiff, argT_zero, argT_succ, Option.map_some, reduceCtorEq, if_true, if_false]; try rfl) (fun hc => ?_) (fun hc => ?_)
      · simp at hc
      · refine awp_skip ?_
        dsimp only [Then, InBlock]
        refine awp_reg _ (by kernel_rfl) rfl ?_
        refine ops_prim rfl (by simp (disch := omega) only [evalPrim, ↓ev_tmp, ↓ev_const, ↓put_at, ↓put_none, ↓reduceIte, Nat.reduceEqDiff, argT_zero, argT_succ, h5]; try rfl) ?_
        refine ops_prim rfl (by simp (disch := omega) only [evalPrim, ↓ev_tmp, ↓ev_const, ↓put_at, ↓put_none, ↓reduceIte, Nat.reduceEqDiff, argT_zero, argT_succ, tvBinT, tvBinT.nil2, tvBinT.ptr2, tvBin, intBin, ofConst, ofValue, Option.map_some, reduceCtorEq, if_true, if_false, h5]; try rfl) ?_
        refine ops_prim rfl (by simp (disch := omega) only [evalPrim, ↓ev_tmp, ↓ev_const, ↓put_at, ↓put_none, ↓reduceIte, Nat.reduceEqDiff, argT_zero, argT_succ, ofConst, ofValue, h5]; try rfl) ?_
        refine ops_nil ?_
        dsimp only [Then, InBlock, ↓reduceIte]
        refine ⟨l.length - (i + 1), by omega, i + 1, rfl, by omega, h0, h1, ?_⟩
        simp (disch := omega) only [evalPrim, ↓ev_tmp, ↓ev_const, ↓put_at, ↓put_none, ↓reduceIte, Nat.reduceEqDiff, argT_zero, argT_succ, Option.map_some, reduceCtorEq, if_true, if_false, at_set_same, at_pushed, next_push, next_set, next_empty, h5]
        rw [wr64 (by omega)]
        rfl
    · refine awp_exit ?_
      dsimp only [Then, InBlock]
      refine Eq.mpr (if_pos rfl) ?_
      refine awp_seq ?_
      refine awp_reg _ (by kernel_rfl) rfl ?_
      refine ops_prim rfl (by simp (disch := omega) only [evalPrim, ↓ev_tmp, ↓ev_const, ↓put_at, ↓put_none, ↓reduceIte, Nat.reduceEqDiff, argT_zero, argT_succ, ofConst, ofValue]; try rfl) ?_
      refine ops_nil ?_
      dsimp only [Then, InBlock, ↓reduceIte]
      refine awp_ret ?_
      exact ret_ok (vs := [.c (.bool true)]) rfl rfl

theorem drawsShuffles_ok (d n : Int) : CCall Try.prog 4 [.c (.int .u64 d), .c (.int .i64 n)] (.c (.bool true)) := by
  refine ccall_intro Try.func4 Try.ntmps4 rfl (Nat.le_of_ble_eq_true rfl) (by simp [Closed.c]) ?_
  have hs : CCall Try.prog 19 [.c (.sl (cn n).toNat (intsC (shufOf d n).2)), .c (.sl (cn n).toNat (intsC (shufOf d n).2))] (.c (.bool true)) := by
    have := same_ok (shufOf d n).2 (by rw [shufOf_len]; have := cn_range n; omega)
    rwa [shufOf_len] at this
  refine awp_seq ?_
  refine awp_reg _ (by kernel_rfl) rfl ?_
  refine ops_prim rfl (by simp (disch := omega) only [evalPrim, ↓ev_tmp, ↓ev_const, ↓put_at, ↓put_none, ↓reduceIte, Nat.reduceEqDiff, argT_zero, argT_succ, ofConst, ofValue]; try rfl) ?_
  refine ops_nil ?_
  dsimp only [Then, InBlock, ↓reduceIte]
  refine awp_seq ?_
  refine awp_reg _ (by kernel_rfl) rfl ?_
  iterate 2 refine ops_prim rfl (by simp (disch := omega) only [evalPrim, ↓ev_tmp, ↓ev_const, ↓put_at, ↓put_none, ↓reduceIte, Nat.reduceEqDiff, argT_zero, argT_succ, shufV]; try rfl) ?_
  refine ops_call rfl rfl (by simp (disch := omega) only [callOf, List.nil_append, List.append_nil, List.cons_append, List.map_cons, List.map_nil, ofConst, ofValue, evalPrim, ↓ev_tmp, ↓ev_const, ↓put_at, ↓put_none, ↓reduceIte, Nat.reduceEqDiff, argT_zero, argT_succ, shufV]; rfl) (by kernel_rfl) (by kernel_rfl) (shuffle_c _ _) ?_
  refine ops_prim rfl (by simp (disch := omega) only [evalPrim, ↓ev_tmp, ↓ev_const, ↓put_at, ↓put_none, ↓reduceIte, Nat.reduceEqDiff, argT_zero, argT_succ, shufV]; try rfl) ?_
  iterate 2 refine ops_prim rfl (by simp (disch := omega) only [evalPrim, ↓ev_tmp, ↓ev_const, ↓put_at, ↓put_none, ↓reduceIte, Nat.reduceEqDiff, argT_zero, argT_succ, tvExtract, List.getElem?_cons_zero, List.getElem?_cons_succ, Option.map_some, reduceCtorEq, if_true, if_false, shufV]; try rfl) ?_
  iterate 2 refine ops_prim rfl (by simp (disch := omega) only [evalPrim, ↓ev_tmp, ↓ev_const, ↓put_at, ↓put_none, ↓reduceIte, Nat.reduceEqDiff, argT_zero, argT_succ, ofConst, ofValue, shufV]; try rfl) ?_
  refine ops_nil ?_
  dsimp only [Then, InBlock, ↓reduceIte]
  refine awp_seq ?_
  refine awp_reg _ (by kernel_rfl) rfl ?_
  iterate 2 refine ops_prim rfl (by simp (disch := omega) only [evalPrim, ↓ev_tmp, ↓ev_const, ↓put_at, ↓put_none, ↓reduceIte, Nat.reduceEqDiff, argT_zero, argT_succ, shufV]; try rfl) ?_
  refine ops_call rfl rfl (by simp (disch := omega) only [callOf, List.nil_append, List.append_nil, List.cons_append, List.map_cons, List.map_nil, ofConst, ofValue, evalPrim, ↓ev_tmp, ↓ev_const, ↓put_at, ↓put_none, ↓reduceIte, Nat.reduceEqDiff, argT_zero, argT_succ, shufV]; rfl) (by kernel_rfl) (by kernel_rfl) (refshuffle_c _ _) ?_
  refine ops_prim rfl (by simp (disch := omega) only [evalPrim, ↓ev_tmp, ↓ev_const, ↓put_at, ↓put_none, ↓reduceIte, Nat.reduceEqDiff, argT_zero, argT_succ, shufV]; try rfl) ?_
  iterate 2 refine ops_prim rfl (by simp (disch := omega) only [evalPrim, ↓ev_tmp, ↓ev_const, ↓put_at, ↓put_none, ↓reduceIte, Nat.reduceEqDiff, argT_zero, argT_succ, tvExtract, List.getElem?_cons_zero, List.getElem?_cons_succ, Option.map_some, reduceCtorEq, if_true, if_false, shufV]; try rfl) ?_
  iterate 2 refine ops_prim rfl (by simp (disch := omega) only [evalPrim, ↓ev_tmp, ↓ev_const, ↓put_at, ↓put_none, ↓reduceIte, Nat.reduceEqDiff, argT_zero, argT_succ, ofConst, ofValue, shufV]; try rfl) ?_
  refine ops_nil ?_
  dsimp only [Then, InBlock, ↓reduceIte]
  refine awp_seq ?_
  refine awp_reg _ (by kernel_rfl) rfl ?_
  iterate 2 refine ops_prim rfl (by simp (disch := omega) only [evalPrim, ↓ev_tmp, ↓ev_const, ↓put_at, ↓put_none, ↓reduceIte, Nat.reduceEqDiff, argT_zero, argT_succ, beq_self_eq_true]; try rfl) ?_
  refine ops_prim rfl (by simp (disch := omega) only [evalPrim, ↓ev_tmp, ↓ev_const, ↓put_at, ↓put_none, ↓reduceIte, Nat.reduceEqDiff, argT_zero, argT_succ, tvBinT, tvBinT.nil2, tvBinT.ptr2, tvBin, intBin, ofConst, ofValue, Option.map_some, reduceCtorEq, if_true, if_false, beq_self_eq_true]; try rfl) ?_
  refine ops_prim rfl (by simp (disch := omega) only [evalPrim, ↓ev_tmp, ↓ev_const, ↓put_at, ↓put_none, ↓reduceIte, Nat.reduceEqDiff, argT_zero, argT_succ, beq_self_eq_true]; try rfl) ?_
  refine ops_yes 24 rfl rfl (by simp (disch := omega) only [evalPrim, ↓ev_tmp, ↓ev_const, ↓put_at, ↓put_none, ↓reduceIte, Nat.reduceEqDiff, argT_zero, argT_succ, Option.map_some, reduceCtorEq, if_true, if_false, beq_self_eq_true, bne_self_eq_false, Bool.not_true, Bool.not_false]; try rfl) ?_
  refine ops_prim rfl (by simp (disch := omega) only [evalPrim, ↓ev_tmp, ↓ev_const, ↓put_at, ↓put_none, ↓reduceIte, Nat.reduceEqDiff, argT_zero, argT_succ, beq_self_eq_true]; try rfl) ?_
  refine ops_yes 24 rfl rfl (by simp (disch := omega) only [evalPrim, ↓ev_tmp, ↓ev_const, ↓put_at, ↓put_none, ↓reduceIte, Nat.reduceEqDiff, argT_zero, argT_succ, Option.map_some, reduceCtorEq, if_true, if_false, beq_self_eq_true, bne_self_eq_false, Bool.not_true, Bool.not_false]; try rfl) ?_
  refine ops_prim rfl (by simp (disch := omega) only [evalPrim, ↓ev_tmp, ↓ev_const, ↓put_at, ↓put_none, ↓reduceIte, Nat.reduceEqDiff, argT_zero, argT_succ, beq_self_eq_true]; try rfl) ?_
  refine ops_yes 24 rfl rfl (by simp (disch := omega) only [evalPrim, ↓ev_tmp, ↓ev_const, ↓put_at, ↓put_none, ↓reduceIte, Nat.reduceEqDiff, argT_zero, argT_succ, Option.map_some, reduceCtorEq, if_true, if_false, beq_self_eq_true, bne_self_eq_false, Bool.not_true, Bool.not_false]; try rfl) ?_
  refine ops_call rfl rfl (by simp (disch := omega) only [callOf, List.nil_append, List.append_nil, List.cons_append, List.map_cons, List.map_nil, ofConst, ofValue, evalPrim, ↓ev_tmp, ↓ev_const, ↓put_at, ↓put_none, ↓reduceIte, Nat.reduceEqDiff, argT_zero, argT_succ, beq_self_eq_true]; rfl) (by kernel_rfl) (by kernel_rfl) (hs) ?_
  refine ops_prim rfl (by simp (disch := omega) only [evalPrim, ↓ev_tmp, ↓ev_const, ↓put_at, ↓put_none, ↓reduceIte, Nat.reduceEqDiff, argT_zero, argT_succ, cond_true, cond_false, ofConst, ofValue, beq_self_eq_true]; try rfl) ?_
  refine ops_prim rfl (by simp (disch := omega) only [evalPrim, ↓ev_tmp, ↓ev_const, ↓put_at, ↓put_none, ↓reduceIte, Nat.reduceEqDiff, argT_zero, argT_succ, beq_self_eq_true]; try rfl) ?_
  refine ops_yes 29 rfl rfl (by simp (disch := omega) only [evalPrim, ↓ev_tmp, ↓ev_const, ↓put_at, ↓put_none, ↓reduceIte, Nat.reduceEqDiff, argT_zero, argT_succ, Option.map_some, reduceCtorEq, if_true, if_false, beq_self_eq_true, bne_self_eq_false, Bool.not_true, Bool.not_false]; try rfl) ?_
  refine ops_call rfl rfl (by simp (disch := omega) only [callOf, List.nil_append, List.append_nil, List.cons_append, List.map_cons, List.map_nil, ofConst, ofValue, evalPrim, ↓ev_tmp, ↓ev_const, ↓put_at, ↓put_none, ↓reduceIte, Nat.reduceEqDiff, argT_zero, argT_succ, beq_self_eq_true]; rfl) (by kernel_rfl) (by kernel_rfl) (awake_ok) ?_
  refine ops_prim rfl (by simp (disch := omega) only [evalPrim, ↓ev_tmp, ↓ev_const, ↓put_at, ↓put_none, ↓reduceIte, Nat.reduceEqDiff, argT_zero, argT_succ, cond_true, cond_false, ofConst, ofValue, beq_self_eq_true]; try rfl) ?_
  refine ops_prim rfl (by simp (disch := omega) only [evalPrim, ↓ev_tmp, ↓ev_const, ↓put_at, ↓put_none, ↓reduceIte, Nat.reduceEqDiff, argT_zero, argT_succ, ofConst, ofValue, beq_self_eq_true]; try rfl) ?_
  refine ops_nil ?_
  dsimp only [Then, InBlock, ↓reduceIte]
  refine awp_ret ?_
  exact ret_ok (vs := [.c (.bool true)]) rfl rfl
end Go.Sim
