/- A part of the proof: the walks of this law's functions. -/
import Derived.Test.YtgobcpfcekgcfaaSimQ
import Derived.Test.YtgobcpfcekgcfaaD6
namespace Go.Sim
open Go Go.Proofs
set_option maxRecDepth 4000
set_option autoImplicit false
set_option linter.unusedSimpArgs false
theorem sz3 : szOf Try.prog 3 = some 1 := by kernel_rfl
theorem by3 : bytesOf Try.prog 3 = some 8 := by kernel_rfl
theorem zero3 : zeroCs Try.prog 3 = some [.int .i64 0] := by kernel_rfl
theorem agg3 : aggT Try.prog 3 = false := by kernel_rfl

def swap (l : List Int) (i j : Nat) : List Int := (l.set i (l.getD j 0)).set j (l.getD i 0)
def shuf : Nat → Int → List Int → Int × List Int
  | 0, d, l => (d, l)
  | i + 1, d, l => shuf i (nx d) (swap l (i + 1) (bk d (i + 2)).toNat)
def iota (n : Nat) : List Int := (List.range n).map fun (i : Nat) => (i : Int)
def cn (n : Int) : Int := mx 0 (mn n 1000)
theorem cn_range (n : Int) : 0 ≤ cn n ∧ cn n ≤ 1000 := by unfold cn mx mn; split <;> split <;> omega
def shufOf (d n : Int) : Int × List Int := shuf ((cn n).toNat - 1) d (iota (cn n).toNat)

theorem iota_of {l : List Int} {n : Nat} (hl : l.length = n) (h : ∀ k, k < n → l.getD k 0 = k) : l = iota n := by
  apply List.ext_getElem
  · simp [iota, hl]
  · intro k h1 h2
    have := h k (by omega)
    rw [List.getD_eq_getElem?_getD, List.getElem?_eq_getElem h1] at this
    simpa [iota] using this
theorem set_iota {l : List Int} {i : Nat} (hi : i < l.length) (h : ∀ k, k < i → l.getD k 0 = k) : ∀ k, k < i + 1 → (l.set i (i : Int)).getD k 0 = k := by
  intro k hk
  rw [List.getD_eq_getElem?_getD, List.getElem?_set]
  by_cases e : i = k
  · subst e; simp [hi]
  · rw [if_neg e, ← List.getD_eq_getElem?_getD]
    exact h k (by omega)
theorem swap_len (l : List Int) (i j : Nat) : (swap l i j).length = l.length := by simp [swap]
theorem bk_range (d n : Int) (h : 1 ≤ n) : 0 ≤ bk d n ∧ bk d n < n := by
  unfold bk
  rw [if_neg (by omega)]
  exact ⟨Int.emod_nonneg _ (by omega), Int.emod_lt_of_pos _ (by omega)⟩

theorem shuffle_ok (d n : Int) (S0 : Store) : ACall Try.prog 17 [.c (.int .u64 d), .c (.int .i64 n)] S0 fun r S' =>
    r = .tup [.c (.int .u64 (shufOf d n).1), .view S0.next 0 0 (cn n).toNat] ∧ S' = S0.push (.cells 0 3 1 (ints (shufOf d n).2)) := by
  refine acall_intro Try.func17 Try.ntmps17 rfl (Nat.le_of_ble_eq_true rfl) ?_
  have hc0 := cn_range n
  refine awp_seq ?_
  refine awp_reg _ (by kernel_rfl) rfl ?_
  iterate 2 refine ops_prim rfl (by simp (disch := omega) only [evalPrim, ↓ev_tmp, ↓ev_const, ↓put_at, ↓put_none, ↓reduceIte, Nat.reduceEqDiff, argT_zero, argT_succ, ofConst, ofValue]; try rfl) ?_
  refine ops_nil ?_
  dsimp only [Then, InBlock, ↓reduceIte]
  refine awp_seq ?_
  refine awp_reg _ (by kernel_rfl) rfl ?_
  refine ops_prim rfl (by simp (disch := omega) only [evalPrim, ↓ev_tmp, ↓ev_const, ↓put_at, ↓put_none, ↓reduceIte, Nat.reduceEqDiff, argT_zero, argT_succ]; try rfl) ?_
  iterate 2 refine ops_prim rfl (by simp (disch := omega) only [evalPrim, ↓ev_tmp, ↓ev_const, ↓put_at, ↓put_none, ↓reduceIte, Nat.reduceEqDiff, argT_zero, argT_succ, tvLen, tvMax, tvMin, tvFold, tvAppend, srcOf, List.map_cons, List.map_nil, ofConst, ofValue, Option.map_some, reduceCtorEq, if_true, if_false]; try rfl) ?_
  refine ops_prim rfl (by simp (disch := omega) only [evalPrim, ↓ev_tmp, ↓ev_const, ↓put_at, ↓put_none, ↓reduceIte, Nat.reduceEqDiff, argT_zero, argT_succ, ofConst, ofValue]; try rfl) ?_
  refine ops_nil ?_
  dsimp only [Then, InBlock, ↓reduceIte]
  have e1 : mx 0 (mn n 1000) = cn n := rfl
  rw [e1]
  unfold shufOf
  obtain ⟨N, hN⟩ : ∃ N : Nat, cn n = (N : Int) := ⟨(cn n).toNat, by omega⟩
  rw [hN] at hc0 ⊢
  simp only [Int.toNat_natCast]
  refine awp_seq ?_
  refine awp_reg _ (by kernel_rfl) rfl ?_
  refine ops_prim rfl (by simp (disch := omega) only [evalPrim, ↓ev_tmp, ↓ev_const, ↓put_at, ↓put_none, ↓reduceIte, Nat.reduceEqDiff, argT_zero, argT_succ, Try.underlying29, sz3, by3, zero3, if_pos, zrow_ints, Nat.mul_one, Int.toNat_natCast]; try rfl) ?_
  refine ops_prim rfl (by simp (disch := omega) only [evalPrim, ↓ev_tmp, ↓ev_const, ↓put_at, ↓put_none, ↓reduceIte, Nat.reduceEqDiff, argT_zero, argT_succ, tvMake, ofConst, ofValue, List.length_cons, List.length_nil, Nat.reduceAdd, Nat.reduceLT, and_true, Option.map_some, reduceCtorEq, if_true, if_false, Try.underlying29, sz3, by3, zero3, if_pos, zrow_ints, Nat.mul_one, Int.toNat_natCast]; try rfl) ?_
  refine ops_prim rfl (by simp (disch := omega) only [evalPrim, ↓ev_tmp, ↓ev_const, ↓put_at, ↓put_none, ↓reduceIte, Nat.reduceEqDiff, argT_zero, argT_succ, ofConst, ofValue, Try.underlying29, sz3, by3, zero3, if_pos, zrow_ints, Nat.mul_one, Int.toNat_natCast]; try rfl) ?_
  refine ops_nil ?_
  dsimp only [Then, InBlock, ↓reduceIte]
  refine awp_seq ?_
  refine awp_seq ?_
  refine awp_reg _ (by kernel_rfl) rfl ?_
  refine ops_prim rfl (by simp (disch := omega) only [evalPrim, ↓ev_tmp, ↓ev_const, ↓put_at, ↓put_none, ↓reduceIte, Nat.reduceEqDiff, argT_zero, argT_succ, Try.underlying29, at_push_self]; try rfl) ?_
  refine ops_prim rfl (by simp (disch := omega) only [evalPrim, ↓ev_tmp, ↓ev_const, ↓put_at, ↓put_none, ↓reduceIte, Nat.reduceEqDiff, argT_zero, argT_succ, tvLen, tvMax, tvMin, tvFold, tvAppend, srcOf, List.map_cons, List.map_nil, ofConst, ofValue, Option.map_some, reduceCtorEq, if_true, if_false, Try.underlying29, at_push_self]; try rfl) ?_
  refine ops_prim rfl (by simp (disch := omega) only [evalPrim, ↓ev_tmp, ↓ev_const, ↓put_at, ↓put_none, ↓reduceIte, Nat.reduceEqDiff, argT_zero, argT_succ, Try.underlying29, at_push_self]; try rfl) ?_
  refine ops_nil ?_
  dsimp only [Then, InBlock, ↓reduceIte]
  refine awp_block ?_
  refine awp_loop (fun k T S => ∃ (i : Nat) (l : List Int), k = N - i ∧ i ≤ N ∧ T 0 = .c (.int .u64 d) ∧ T 1 = .c (.int .i64 N) ∧ T 6 = .view S0.next 0 0 N ∧ T 17 = .c (.int .i64 N) ∧ T 18 = .c (.int .i64 i) ∧
    S = S0.push (.cells 0 3 1 (ints l)) ∧ l.length = N ∧ ∀ k, k < i → l.getD k 0 = k) N ⟨0, List.replicate N 0, rfl, by omega, rfl, rfl, rfl, rfl, rfl, rfl, by simp, fun k hk => by omega⟩ ?_
  rintro k T S ⟨i, l, rfl, hi, h0, h1, h6, h17, h18, rfl, hl, hk⟩
  refine awp_seq ?_
  refine awp_reg _ (by kernel_rfl) rfl ?_
  refine ops_prim rfl (by simp (disch := omega) only [evalPrim, ↓ev_tmp, ↓ev_const, ↓put_at, ↓put_none, ↓reduceIte, Nat.reduceEqDiff, argT_zero, argT_succ, tvBinT, tvBinT.nil2, tvBinT.ptr2, tvBin, intBin, ofConst, ofValue, Option.map_some, reduceCtorEq, if_true, if_false, h17, h18]; try rfl) ?_
  refine ops_nil ?_
  dsimp only [Then, InBlock, ↓reduceIte]
  refine awp_seq ?_
  refine awp_ifc (by simp (disch := omega) only [evalPrim, ↓ev_tmp, ↓ev_const, ↓put_at, ↓put_none, ↓reduceIte, Nat.reduceEqDiff, argT_zero, argT_succ, Option.map_some, reduceCtorEq, if_true, if_false]; try rfl) (fun hc => ?_) (fun hc => ?_)
  · simp only [decide_eq_true_eq] at hc
    refine awp_skip ?_
    dsimp only [Then, InBlock]
    refine awp_seq ?_
    refine awp_block ?_
    refine awp_seq ?_
    refine awp_reg _ (by kernel_rfl) rfl ?_
    refine ops_prim rfl (by simp (disch := omega) only [evalPrim, ↓ev_tmp, ↓ev_const, ↓put_at, ↓put_none, ↓reduceIte, Nat.reduceEqDiff, argT_zero, argT_succ, h18]; try rfl) ?_
    refine ops_prim rfl (by simp (disch := omega) only [evalPrim, ↓ev_tmp, ↓ev_const, ↓put_at, ↓put_none, ↓reduceIte, Nat.reduceEqDiff, argT_zero, argT_succ, ofConst, ofValue, h18]; try rfl) ?_
    refine ops_nil ?_
    dsimp only [Then, InBlock, ↓reduceIte]
    refine awp_reg _ (by kernel_rfl) rfl ?_
    iterate 3 refine ops_prim rfl (by simp (disch := omega) only [evalPrim, ↓ev_tmp, ↓ev_const, ↓put_at, ↓put_none, ↓reduceIte, Nat.reduceEqDiff, argT_zero, argT_succ, h6, h18, Try.underlying29, sz3, agg3, if_pos, Nat.mul_one, Nat.zero_add, ints_len, ints_get, splice_ints, push_set, at_push_self, Int.toNat_natCast, Option.map_some]; try rfl) ?_
    refine ops_prim rfl (by simp (disch := omega) only [evalPrim, ↓ev_tmp, ↓ev_const, ↓put_at, ↓put_none, ↓reduceIte, Nat.reduceEqDiff, argT_zero, argT_succ, tvIndexAddr, ofConst, ofValue, Option.map_some, reduceCtorEq, if_true, if_false, h6, h18, Try.underlying29, sz3, agg3, if_pos, Nat.mul_one, Nat.zero_add, ints_len, ints_get, splice_ints, push_set, at_push_self, Int.toNat_natCast]; try rfl) ?_
    refine ops_prim rfl (by simp (disch := omega) only [evalPrim, ↓ev_tmp, ↓ev_const, ↓put_at, ↓put_none, ↓reduceIte, Nat.reduceEqDiff, argT_zero, argT_succ, tvStore, ofConst, ofValue, cellsOf, at_set_same, at_pushed, List.length_cons, List.length_nil, Nat.reduceAdd, Nat.reduceLeDiff, Nat.zero_add, Nat.le_refl, List.all_cons, List.all_nil, TV.one, Bool.and_true, Bool.and_self, and_true, true_and, and_self, Option.map_some, reduceCtorEq, if_true, if_false, h6, h18, Try.underlying29, sz3, agg3, if_pos, Nat.mul_one, ints_len, ints_get, splice_ints, push_set, at_push_self, Int.toNat_natCast]; try rfl) ?_
    refine ops_nil ?_
    dsimp only [Then, InBlock, ↓reduceIte]
    refine awp_reg _ (by kernel_rfl) rfl ?_
    refine ops_prim rfl (by simp (disch := omega) only [evalPrim, ↓ev_tmp, ↓ev_const, ↓put_at, ↓put_none, ↓reduceIte, Nat.reduceEqDiff, argT_zero, argT_succ, tvBinT, tvBinT.nil2, tvBinT.ptr2, tvBin, intBin, ofConst, ofValue, Option.map_some, reduceCtorEq, if_true, if_false, h18]; try rfl) ?_
    refine ops_prim rfl (by simp (disch := omega) only [evalPrim, ↓ev_tmp, ↓ev_const, ↓put_at, ↓put_none, ↓reduceIte, Nat.reduceEqDiff, argT_zero, argT_succ, h18]; try rfl) ?_
    refine ops_nil ?_
    dsimp only [Then, InBlock, ↓reduceIte]
    refine ⟨N - (i + 1), by omega, i + 1, l.set i (i : Int), rfl, by omega, h0, h1, h6, h17, ?_, rfl, by simp [hl], set_iota (by omega) hk⟩
    simp (disch := omega) only [evalPrim, ↓ev_tmp, ↓ev_const, ↓put_at, ↓put_none, ↓reduceIte, Nat.reduceEqDiff, argT_zero, argT_succ, Option.map_some, reduceCtorEq, if_true, if_false, at_set_same, at_pushed, next_push, next_set, next_empty, h18]
    rw [wr64 (by omega)]
    rfl
  · simp only [decide_eq_false_iff_not] at hc
    have hiN : i = N := by omega
    subst hiN
    have hli : l = iota i := iota_of hl hk
    subst hli
    refine awp_exit ?_
    dsimp only [Then, InBlock]
    refine Eq.mpr (if_pos rfl) ?_
    refine awp_seq ?_
    refine awp_seq ?_
    have w1 : IntKind.wrap .i64 ((i : Int) - 1) = (i : Int) - 1 := wr64 (by omega)
    refine awp_reg _ (by kernel_rfl) rfl ?_
    refine ops_prim rfl (by simp (disch := omega) only [evalPrim, ↓ev_tmp, ↓ev_const, ↓put_at, ↓put_none, ↓reduceIte, Nat.reduceEqDiff, argT_zero, argT_succ, h1, w1]; try rfl) ?_
    refine ops_prim rfl (by simp (disch := omega) only [evalPrim, ↓ev_tmp, ↓ev_const, ↓put_at, ↓put_none, ↓reduceIte, Nat.reduceEqDiff, argT_zero, argT_succ, tvBinT, tvBinT.nil2, tvBinT.ptr2, tvBin, intBin, ofConst, ofValue, Option.map_some, reduceCtorEq, if_true, if_false, h1, w1]; try rfl) ?_
    refine ops_prim rfl (by simp (disch := omega) only [evalPrim, ↓ev_tmp, ↓ev_const, ↓put_at, ↓put_none, ↓reduceIte, Nat.reduceEqDiff, argT_zero, argT_succ, ofConst, ofValue, h1, w1]; try rfl) ?_
    refine ops_nil ?_
    dsimp only [Then, InBlock, ↓reduceIte]
    refine awp_block ?_
    refine awp_loop (fun k T S => ∃ (j d' : Int) (l : List Int), k = j.toNat ∧ j ≤ (i : Int) - 1 ∧ T 0 = .c (.int .u64 d') ∧ T 6 = .view S0.next 0 0 i ∧ T 8 = .c (.int .i64 j) ∧
      S = S0.push (.cells 0 3 1 (ints l)) ∧ l.length = i ∧ shuf j.toNat d' l = shuf (i - 1) d (iota i)) (i - 1) ⟨(i : Int) - 1, d, iota i, by omega, by omega, h0, h6, rfl, rfl, by simp [iota], by congr 1; omega⟩ ?_
    clear h0 h1 h6 h17 h18
    rintro k T S ⟨j, d', l, rfl, hj, h0, h6, h8, rfl, hl, hs⟩
    refine awp_seq ?_
    refine awp_seq ?_
    refine awp_reg _ (by kernel_rfl) rfl ?_
    refine ops_prim rfl (by simp (disch := omega) only [evalPrim, ↓ev_tmp, ↓ev_const, ↓put_at, ↓put_none, ↓reduceIte, Nat.reduceEqDiff, argT_zero, argT_succ, h8]; try rfl) ?_
    refine ops_prim rfl (by simp (disch := omega) only [evalPrim, ↓ev_tmp, ↓ev_const, ↓put_at, ↓put_none, ↓reduceIte, Nat.reduceEqDiff, argT_zero, argT_succ, tvBinT, tvBinT.nil2, tvBinT.ptr2, tvBin, intBin, ofConst, ofValue, Option.map_some, reduceCtorEq, if_true, if_false, h8]; try rfl) ?_
    refine ops_nil ?_
    dsimp only [Then, InBlock, ↓reduceIte]
    refine awp_ifc (by simp (disch := omega) only [evalPrim, ↓ev_tmp, ↓ev_const, ↓put_at, ↓put_none, ↓reduceIte, Nat.reduceEqDiff, argT_zero, argT_succ, Option.map_some, reduceCtorEq, if_true, if_false]; try rfl) (fun hc => ?_) (fun hc => ?_)
    · simp only [decide_eq_true_eq] at hc
      obtain ⟨m, rfl⟩ : ∃ m : Nat, j = (m : Int) + 1 := ⟨(j - 1).toNat, by omega⟩
      have w2 : IntKind.wrap .i64 ((m : Int) + 1 + 1) = (m : Int) + 2 := by rw [wr64 (by omega)]; omega
      have w3 : IntKind.wrap .i64 ((m : Int) + 1 - 1) = (m : Int) := by rw [wr64 (by omega)]; omega
      have hb := bk_range d' ((m : Int) + 2) (by omega)
      have t1 : ((m : Int) + 1).toNat = m + 1 := by omega
      rw [t1] at hs
      have hls : (l.set (m + 1) (l.getD (bk d' ((m : Int) + 2)).toNat 0)).length = i := by simp [hl]
      refine awp_skip ?_
      dsimp only [Then, InBlock]
      refine awp_seq ?_
      refine awp_block ?_
      refine awp_seq ?_
      refine awp_reg _ (by kernel_rfl) rfl ?_
      iterate 2 refine ops_prim rfl (by simp (disch := omega) only [evalPrim, ↓ev_tmp, ↓ev_const, ↓put_at, ↓put_none, ↓reduceIte, Nat.reduceEqDiff, argT_zero, argT_succ, h0, h8, w2]; try rfl) ?_
      refine ops_prim rfl (by simp (disch := omega) only [evalPrim, ↓ev_tmp, ↓ev_const, ↓put_at, ↓put_none, ↓reduceIte, Nat.reduceEqDiff, argT_zero, argT_succ, tvBinT, tvBinT.nil2, tvBinT.ptr2, tvBin, intBin, ofConst, ofValue, Option.map_some, reduceCtorEq, if_true, if_false, h0, h8, w2]; try rfl) ?_
      refine ops_call rfl rfl (by simp (disch := omega) only [callOf, List.nil_append, List.append_nil, List.cons_append, List.map_cons, List.map_nil, ofConst, ofValue, evalPrim, ↓ev_tmp, ↓ev_const, ↓put_at, ↓put_none, ↓reduceIte, Nat.reduceEqDiff, argT_zero, argT_succ, h0, h8, w2]; rfl) (by kernel_rfl) (by kernel_rfl) (below_ok _ _) ?_
      refine ops_prim rfl (by simp (disch := omega) only [evalPrim, ↓ev_tmp, ↓ev_const, ↓put_at, ↓put_none, ↓reduceIte, Nat.reduceEqDiff, argT_zero, argT_succ, h0, h8, w2]; try rfl) ?_
      iterate 2 refine ops_prim rfl (by simp (disch := omega) only [evalPrim, ↓ev_tmp, ↓ev_const, ↓put_at, ↓put_none, ↓reduceIte, Nat.reduceEqDiff, argT_zero, argT_succ, tvExtract, List.getElem?_cons_zero, List.getElem?_cons_succ, Option.map_some, reduceCtorEq, if_true, if_false, h0, h8, w2]; try rfl) ?_
      iterate 2 refine ops_prim rfl (by simp (disch := omega) only [evalPrim, ↓ev_tmp, ↓ev_const, ↓put_at, ↓put_none, ↓reduceIte, Nat.reduceEqDiff, argT_zero, argT_succ, ofConst, ofValue, h0, h8, w2]; try rfl) ?_
      refine ops_nil ?_
      dsimp only [Then, InBlock, ↓reduceIte]
      refine awp_seq ?_
      refine awp_reg _ (by kernel_rfl) rfl ?_
      refine ops_prim rfl (by simp (disch := omega) only [evalPrim, ↓ev_tmp, ↓ev_const, ↓put_at, ↓put_none, ↓reduceIte, Nat.reduceEqDiff, argT_zero, argT_succ]; try rfl) ?_
      refine ops_prim rfl (by simp (disch := omega) only [evalPrim, ↓ev_tmp, ↓ev_const, ↓put_at, ↓put_none, ↓reduceIte, Nat.reduceEqDiff, argT_zero, argT_succ, ofConst, ofValue]; try rfl) ?_
      refine ops_nil ?_
      dsimp only [Then, InBlock, ↓reduceIte]
      refine awp_regD _ (by kernel_rfl) (by kernel_rfl) (by kernel_rfl) rfl ?_
      iterate 6 refine opd_prim rfl (by simp (disch := omega) only [evalPrim, ↓ev_tmp, ↓ev_const, ↓put_at, ↓put_none, ↓reduceIte, Nat.reduceEqDiff, argT_zero, argT_succ, h6, h8, t1, List.length_set, Try.underlying29, sz3, agg3, if_pos, Nat.mul_one, Nat.zero_add, ints_len, ints_get, splice_ints, push_set, at_push_self, Int.toNat_natCast, Option.map_some]; try rfl) ?_
      refine opd_prim rfl (by simp (disch := omega) only [evalPrim, ↓ev_tmp, ↓ev_const, ↓put_at, ↓put_none, ↓reduceIte, Nat.reduceEqDiff, argT_zero, argT_succ, tvIndexAddr, ofConst, ofValue, Option.map_some, reduceCtorEq, if_true, if_false, h6, h8, t1, List.length_set, Try.underlying29, sz3, agg3, if_pos, Nat.mul_one, Nat.zero_add, ints_len, ints_get, splice_ints, push_set, at_push_self, Int.toNat_natCast]; try rfl) ?_
      refine opd_prim rfl (by simp (disch := omega) only [evalPrim, ↓ev_tmp, ↓ev_const, ↓put_at, ↓put_none, ↓reduceIte, Nat.reduceEqDiff, argT_zero, argT_succ, tvLoad, at_set_same, at_pushed, List.length_cons, List.length_nil, Nat.reduceAdd, Nat.reduceLeDiff, Nat.zero_add, Nat.le_refl, List.drop_zero, List.drop_succ_cons, List.take_succ_cons, List.take_zero, List.getElem?_cons_zero, List.getElem?_cons_succ, Bool.false_eq_true, Option.map_some, reduceCtorEq, if_true, if_false, h6, h8, t1, List.length_set, Try.underlying29, sz3, agg3, if_pos, Nat.mul_one, ints_len, ints_get, splice_ints, push_set, at_push_self, Int.toNat_natCast]; try rfl) ?_
      iterate 2 refine opd_prim rfl (by simp (disch := omega) only [evalPrim, ↓ev_tmp, ↓ev_const, ↓put_at, ↓put_none, ↓reduceIte, Nat.reduceEqDiff, argT_zero, argT_succ, h6, h8, t1, List.length_set, Try.underlying29, sz3, agg3, if_pos, Nat.mul_one, Nat.zero_add, ints_len, ints_get, splice_ints, push_set, at_push_self, Int.toNat_natCast, Option.map_some]; try rfl) ?_
      refine opd_prim rfl (by simp (disch := omega) only [evalPrim, ↓ev_tmp, ↓ev_const, ↓put_at, ↓put_none, ↓reduceIte, Nat.reduceEqDiff, argT_zero, argT_succ, tvIndexAddr, ofConst, ofValue, Option.map_some, reduceCtorEq, if_true, if_false, h6, h8, t1, List.length_set, Try.underlying29, sz3, agg3, if_pos, Nat.mul_one, Nat.zero_add, ints_len, ints_get, splice_ints, push_set, at_push_self, Int.toNat_natCast]; try rfl) ?_
      refine opd_prim rfl (by simp (disch := omega) only [evalPrim, ↓ev_tmp, ↓ev_const, ↓put_at, ↓put_none, ↓reduceIte, Nat.reduceEqDiff, argT_zero, argT_succ, tvLoad, at_set_same, at_pushed, List.length_cons, List.length_nil, Nat.reduceAdd, Nat.reduceLeDiff, Nat.zero_add, Nat.le_refl, List.drop_zero, List.drop_succ_cons, List.take_succ_cons, List.take_zero, List.getElem?_cons_zero, List.getElem?_cons_succ, Bool.false_eq_true, Option.map_some, reduceCtorEq, if_true, if_false, h6, h8, t1, List.length_set, Try.underlying29, sz3, agg3, if_pos, Nat.mul_one, ints_len, ints_get, splice_ints, push_set, at_push_self, Int.toNat_natCast]; try rfl) ?_
      refine opd_prim rfl (by simp (disch := omega) only [evalPrim, ↓ev_tmp, ↓ev_const, ↓put_at, ↓put_none, ↓reduceIte, Nat.reduceEqDiff, argT_zero, argT_succ, tvIndexAddr, ofConst, ofValue, Option.map_some, reduceCtorEq, if_true, if_false, h6, h8, t1, List.length_set, Try.underlying29, sz3, agg3, if_pos, Nat.mul_one, Nat.zero_add, ints_len, ints_get, splice_ints, push_set, at_push_self, Int.toNat_natCast]; try rfl) ?_
      refine opd_prim rfl (by simp (disch := omega) only [evalPrim, ↓ev_tmp, ↓ev_const, ↓put_at, ↓put_none, ↓reduceIte, Nat.reduceEqDiff, argT_zero, argT_succ, tvStore, ofConst, ofValue, cellsOf, at_set_same, at_pushed, List.length_cons, List.length_nil, Nat.reduceAdd, Nat.reduceLeDiff, Nat.zero_add, Nat.le_refl, List.all_cons, List.all_nil, TV.one, Bool.and_true, Bool.and_self, and_true, true_and, and_self, Option.map_some, reduceCtorEq, if_true, if_false, h6, h8, t1, List.length_set, Try.underlying29, sz3, agg3, if_pos, Nat.mul_one, ints_len, ints_get, splice_ints, push_set, at_push_self, Int.toNat_natCast]; try rfl) ?_
      refine opd_prim rfl (by simp (disch := omega) only [evalPrim, ↓ev_tmp, ↓ev_const, ↓put_at, ↓put_none, ↓reduceIte, Nat.reduceEqDiff, argT_zero, argT_succ, tvIndexAddr, ofConst, ofValue, Option.map_some, reduceCtorEq, if_true, if_false, h6, h8, t1, List.length_set, Try.underlying29, sz3, agg3, if_pos, Nat.mul_one, Nat.zero_add, ints_len, ints_get, splice_ints, push_set, at_push_self, Int.toNat_natCast]; try rfl) ?_
      refine opd_prim rfl (by simp (disch := omega) only [evalPrim, ↓ev_tmp, ↓ev_const, ↓put_at, ↓put_none, ↓reduceIte, Nat.reduceEqDiff, argT_zero, argT_succ, tvStore, ofConst, ofValue, cellsOf, at_set_same, at_pushed, List.length_cons, List.length_nil, Nat.reduceAdd, Nat.reduceLeDiff, Nat.zero_add, Nat.le_refl, List.all_cons, List.all_nil, TV.one, Bool.and_true, Bool.and_self, and_true, true_and, and_self, Option.map_some, reduceCtorEq, if_true, if_false, h6, h8, t1, List.length_set, Try.underlying29, sz3, agg3, if_pos, Nat.mul_one, ints_len, ints_get, splice_ints, push_set, at_push_self, Int.toNat_natCast]; try rfl) ?_
      refine opd_nil ?_
      dsimp only [Then, InBlock, ↓reduceIte]
      refine awp_reg _ (by kernel_rfl) rfl ?_
      refine ops_prim rfl (by simp (disch := omega) only [evalPrim, ↓ev_tmp, ↓ev_const, ↓put_at, ↓put_none, ↓reduceIte, Nat.reduceEqDiff, argT_zero, argT_succ, h8, w3]; try rfl) ?_
      refine ops_prim rfl (by simp (disch := omega) only [evalPrim, ↓ev_tmp, ↓ev_const, ↓put_at, ↓put_none, ↓reduceIte, Nat.reduceEqDiff, argT_zero, argT_succ, tvBinT, tvBinT.nil2, tvBinT.ptr2, tvBin, intBin, ofConst, ofValue, Option.map_some, reduceCtorEq, if_true, if_false, h8, w3]; try rfl) ?_
      refine ops_prim rfl (by simp (disch := omega) only [evalPrim, ↓ev_tmp, ↓ev_const, ↓put_at, ↓put_none, ↓reduceIte, Nat.reduceEqDiff, argT_zero, argT_succ, ofConst, ofValue, h8, w3]; try rfl) ?_
      refine ops_nil ?_
      dsimp only [Then, InBlock, ↓reduceIte]
      exact ⟨m, by omega, (m : Int), nx d', swap l (m + 1) (bk d' ((m : Int) + 2)).toNat, by omega, by omega, rfl, h6, rfl, rfl, by rw [swap_len]; exact hl, hs⟩
    · simp only [decide_eq_false_iff_not] at hc
      have hj0 : j.toNat = 0 := by omega
      rw [hj0] at hs
      have hs' : shuf (i - 1) d (iota i) = (d', l) := hs.symm
      rw [hs']
      refine awp_exit ?_
      dsimp only [Then, InBlock]
      refine Eq.mpr (if_pos rfl) ?_
      refine awp_seq ?_
      refine awp_reg _ (by kernel_rfl) rfl ?_
      iterate 2 refine ops_prim rfl (by simp (disch := omega) only [evalPrim, ↓ev_tmp, ↓ev_const, ↓put_at, ↓put_none, ↓reduceIte, Nat.reduceEqDiff, argT_zero, argT_succ, h0, h6]; try rfl) ?_
      iterate 2 refine ops_prim rfl (by simp (disch := omega) only [evalPrim, ↓ev_tmp, ↓ev_const, ↓put_at, ↓put_none, ↓reduceIte, Nat.reduceEqDiff, argT_zero, argT_succ, ofConst, ofValue, h0, h6]; try rfl) ?_
      refine ops_nil ?_
      dsimp only [Then, InBlock, ↓reduceIte]
      refine awp_ret ?_
      exact ⟨[.c (.int .u64 d'), .view S0.next 0 0 i], rfl, rfl, rfl⟩

/-- The same, as a value that stays as it is. -/
theorem shuf_len : ∀ (i : Nat) (d : Int) (l : List Int), (shuf i d l).2.length = l.length
  | 0, d, l => rfl
  | i + 1, d, l => by
    simp only [shuf]
    rw [shuf_len i, swap_len]
theorem shufOf_len (d n : Int) : (shufOf d n).2.length = (cn n).toNat := by
  rw [shufOf, shuf_len]
  simp [iota]
def shufV (d n : Int) : TV := .tup [.c (.int .u64 (shufOf d n).1), .c (.sl (cn n).toNat (intsC (shufOf d n).2))]
theorem shuf_frz (d n : Int) {r : TV} {S' : Store} (h : r = .tup [.c (.int .u64 (shufOf d n).1), .view Store.empty.next 0 0 (cn n).toNat] ∧ S' = Store.empty.push (.cells 0 3 1 (ints (shufOf d n).2))) : FrzT S' r (shufV d n) := by
  obtain ⟨rfl, rfl⟩ := h
  refine .tup _ _ rfl fun i hi v hv => ?_
  match i, hi with
  | 0, _ => simp at hv; subst hv; exact .c _ _ (.c _)
  | 1, _ =>
    simp at hv
    subst hv
    refine .c _ _ ?_
    have := frz_ints (S := Store.empty.push (.cells 0 3 1 (ints (shufOf d n).2))) (id := Store.empty.next) (g := 0) (off := 0) (len := (cn n).toNat) (at_push_self _ _ _ _ _) (by rw [shufOf_len]; omega)
    rwa [List.drop_zero, List.take_of_length_le (by rw [shufOf_len]; omega)] at this
theorem shuffle_c (d n : Int) : CCall Try.prog 17 [.c (.int .u64 d), .c (.int .i64 n)] (shufV d n) :=
  ccall_of (by simp [Closed.c]) ((shuffle_ok d n Store.empty).mono fun _ _ h => shuf_frz d n h)
end Go.Sim
