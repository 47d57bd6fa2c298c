/- A part of the proof: the walks of this law's functions. -/
import Derived.Test.YtgobcpfcekgcfaaD11
namespace Go.Sim
open Go Go.Proofs
set_option maxRecDepth 4000
set_option autoImplicit false
set_option linter.unusedSimpArgs false
set_option linter.unusedVariables false
def cl (k : Int) (n : Nat) : Int := mx 0 (mn k n)
theorem cl_range (k : Int) (n : Nat) : 0 ≤ cl k n ∧ cl k n ≤ n := by unfold cl mx mn; split <;> split <;> omega
/-- The chosen numbers, ascending. -/
def smp (d n k : Int) : List Int := ((shufOf d n).2.take (cl k (cn n).toNat).toNat).mergeSort fun x y => decide (x ≤ y)
theorem smp_len (d n k : Int) : (smp d n k).length = (cl k (cn n).toNat).toNat := by
  have := cl_range k (cn n).toNat
  simp [smp, shufOf_len]
  omega
theorem sample_c (d n k : Int) : CCall Try.prog 20 [.c (.int .u64 d), .c (.int .i64 n), .c (.int .i64 k)] (.tup [.c (.int .u64 (shufOf d n).1), .c (.sl (cl k (cn n).toNat).toNat (intsC (smp d n k)))]) := by
  refine ccall_intro Try.func20 Try.ntmps20 rfl (Nat.le_of_ble_eq_true rfl) (by simp [Closed.c]) ?_
  have hlen := shufOf_len d n
  have hN := cn_range n
  have hcl := cl_range k (cn n).toNat
  generalize hNe : (cn n).toNat = N at *
  generalize hL : shufOf d n = L at *
  have hsl := smp_len d n k
  rw [hNe] at hsl
  refine awp_seq ?_
  refine awp_reg _ (by kernel_rfl) rfl ?_
  iterate 2 refine ops_prim rfl (by simp (disch := omega) only [evalPrim, ↓ev_tmp, ↓ev_const, ↓put_at, ↓put_none, ↓reduceIte, Nat.reduceEqDiff, argT_zero, argT_succ, ofConst, ofValue]; try rfl) ?_
  refine ops_nil ?_
  dsimp only [Then, InBlock, ↓reduceIte]
  refine awp_seq ?_
  refine awp_reg _ (by kernel_rfl) rfl ?_
  iterate 2 refine ops_prim rfl (by simp (disch := omega) only [evalPrim, ↓ev_tmp, ↓ev_const, ↓put_at, ↓put_none, ↓reduceIte, Nat.reduceEqDiff, argT_zero, argT_succ]; try rfl) ?_
  refine ops_acall rfl rfl (by simp (disch := omega) only [callOf, List.nil_append, List.append_nil, List.cons_append, List.map_cons, List.map_nil, ofConst, ofValue, evalPrim, ↓ev_tmp, ↓ev_const, ↓put_at, ↓put_none, ↓reduceIte, Nat.reduceEqDiff, argT_zero, argT_succ]; rfl) (by kernel_rfl) (by kernel_rfl) (shuffle_ok _ _ _) ?_
  rintro _ _ ⟨rfl, rfl⟩
  refine ops_prim rfl (by simp (disch := omega) only [evalPrim, ↓ev_tmp, ↓ev_const, ↓put_at, ↓put_none, ↓reduceIte, Nat.reduceEqDiff, argT_zero, argT_succ]; try rfl) ?_
  iterate 2 refine ops_prim rfl (by simp (disch := omega) only [evalPrim, ↓ev_tmp, ↓ev_const, ↓put_at, ↓put_none, ↓reduceIte, Nat.reduceEqDiff, argT_zero, argT_succ, tvExtract, List.getElem?_cons_zero, List.getElem?_cons_succ, Option.map_some, reduceCtorEq, if_true, if_false]; try rfl) ?_
  iterate 2 refine ops_prim rfl (by simp (disch := omega) only [evalPrim, ↓ev_tmp, ↓ev_const, ↓put_at, ↓put_none, ↓reduceIte, Nat.reduceEqDiff, argT_zero, argT_succ, ofConst, ofValue]; try rfl) ?_
  refine ops_nil ?_
  dsimp only [Then, InBlock, ↓reduceIte]
  rw [hNe, hL]
  have ecl : mx 0 (mn k N) = cl k N := rfl
  refine awp_seq ?_
  refine awp_reg _ (by kernel_rfl) rfl ?_
  iterate 3 refine ops_prim rfl (by simp (disch := omega) only [evalPrim, ↓ev_tmp, ↓ev_const, ↓put_at, ↓put_none, ↓reduceIte, Nat.reduceEqDiff, argT_zero, argT_succ, ecl, Try.underlying29, Try.underlying3, sz3, by3, zero3, agg3, if_pos, Nat.mul_one, Nat.one_mul, Nat.zero_mul, Nat.sub_zero, Nat.zero_add, ints_len, ints_get, splice_ints, at_empty0, set_empty0, Int.toNat_natCast, Option.map_some, intsC_get, next_empty, boundOf, Option.map]; try rfl) ?_
  iterate 3 refine ops_prim rfl (by simp (disch := omega) only [evalPrim, ↓ev_tmp, ↓ev_const, ↓put_at, ↓put_none, ↓reduceIte, Nat.reduceEqDiff, argT_zero, argT_succ, tvLen, tvMax, tvMin, tvFold, tvAppend, srcOf, List.map_cons, List.map_nil, ofConst, ofValue, Option.map_some, reduceCtorEq, if_true, if_false, ecl, Try.underlying29, Try.underlying3, sz3, by3, zero3, agg3, if_pos, Nat.mul_one, Nat.one_mul, Nat.zero_mul, Nat.sub_zero, Nat.zero_add, ints_len, ints_get, splice_ints, at_empty0, set_empty0, Int.toNat_natCast, intsC_get, next_empty, boundOf, Option.map]; try rfl) ?_
  refine ops_prim rfl (by simp (disch := omega) only [evalPrim, ↓ev_tmp, ↓ev_const, ↓put_at, ↓put_none, ↓reduceIte, Nat.reduceEqDiff, argT_zero, argT_succ, tvSlice, boundOf, ofConst, ofValue, and_true, true_and, Nat.zero_le, Nat.zero_mul, Nat.sub_zero, Option.map_some, reduceCtorEq, if_true, if_false, ecl, Try.underlying29, Try.underlying3, sz3, by3, zero3, agg3, if_pos, Nat.mul_one, Nat.one_mul, Nat.zero_add, ints_len, ints_get, splice_ints, at_empty0, set_empty0, Int.toNat_natCast, intsC_get, next_empty, Option.map]; try rfl) ?_
  refine ops_prim rfl (by simp (disch := omega) only [evalPrim, ↓ev_tmp, ↓ev_const, ↓put_at, ↓put_none, ↓reduceIte, Nat.reduceEqDiff, argT_zero, argT_succ, ofConst, ofValue, ecl, Try.underlying29, Try.underlying3, sz3, by3, zero3, agg3, if_pos, Nat.mul_one, Nat.one_mul, Nat.zero_mul, Nat.sub_zero, Nat.zero_add, ints_len, ints_get, splice_ints, at_empty0, set_empty0, Int.toNat_natCast, Option.map_some, intsC_get, next_empty, boundOf, Option.map]; try rfl) ?_
  refine ops_nil ?_
  dsimp only [Then, InBlock, ↓reduceIte]
  refine awp_seq ?_
  refine awp_reg _ (by kernel_rfl) rfl ?_
  refine ops_prim rfl (by simp (disch := omega) only [evalPrim, ↓ev_tmp, ↓ev_const, ↓put_at, ↓put_none, ↓reduceIte, Nat.reduceEqDiff, argT_zero, argT_succ]; try rfl) ?_
  refine ops_acall rfl rfl (by simp (disch := omega) only [callOf, List.nil_append, List.append_nil, List.cons_append, List.map_cons, List.map_nil, ofConst, ofValue, evalPrim, ↓ev_tmp, ↓ev_const, ↓put_at, ↓put_none, ↓reduceIte, Nat.reduceEqDiff, argT_zero, argT_succ]; rfl) (by kernel_rfl) (by kernel_rfl) (sort_ok (l := L.2) (at_empty0 _ _ _ _) (by omega) (by omega)) ?_
  rintro _ _ ⟨rfl, rfl⟩
  refine ops_nil ?_
  dsimp only [Then, InBlock, ↓reduceIte]
  refine awp_seq ?_
  refine awp_reg _ (by kernel_rfl) rfl ?_
  iterate 2 refine ops_prim rfl (by simp (disch := omega) only [evalPrim, ↓ev_tmp, ↓ev_const, ↓put_at, ↓put_none, ↓reduceIte, Nat.reduceEqDiff, argT_zero, argT_succ]; try rfl) ?_
  iterate 2 refine ops_prim rfl (by simp (disch := omega) only [evalPrim, ↓ev_tmp, ↓ev_const, ↓put_at, ↓put_none, ↓reduceIte, Nat.reduceEqDiff, argT_zero, argT_succ, ofConst, ofValue]; try rfl) ?_
  refine ops_nil ?_
  dsimp only [Then, InBlock, ↓reduceIte]
  refine awp_ret ?_
  have hmid : ((sortMid L.2 0 (cl k N).toNat).drop 0).take (cl k N).toNat = smp d n k := by
    simp only [sortMid, List.drop_zero, List.take_zero, List.nil_append, smp, hL, hNe]
    rw [List.take_append_of_le_length (by simp; omega), List.take_of_length_le (by simp; omega)]
  have hf := frz_ints (S := (Store.empty.push (.cells 0 3 1 (ints L.2))).set 0 (.cells 0 3 1 (ints (sortMid L.2 0 (cl k N).toNat)))) (id := 0) (g := 0) (off := 0) (len := (cl k N).toNat) (at_set_same _ _ _ _ _ _) (by rw [sortMid_len (by omega)]; omega)
  rw [hmid] at hf
  exact ⟨[.c (.int .u64 L.1), .view 0 0 0 (cl k N).toNat], rfl, frz_pair hf⟩

theorem among_ok (l : List Int) (x : Int) (hlen : l.length ≤ 1000000) : CCall Try.prog 28 [.c (.sl l.length (intsC l)), .c (.int .i64 x)] (.c (.bool (decide (x ∈ l)))) := by
  refine ccall_intro Try.func28 Try.ntmps28 rfl (Nat.le_of_ble_eq_true rfl) (by simp [Closed.c]) ?_
  refine awp_seq ?_
  refine awp_reg _ (by kernel_rfl) rfl ?_
  refine ops_prim rfl (by simp (disch := omega) only [evalPrim, ↓ev_tmp, ↓ev_const, ↓put_at, ↓put_none, ↓reduceIte, Nat.reduceEqDiff, argT_zero, argT_succ, ofConst, ofValue]; try rfl) ?_
  refine ops_nil ?_
  dsimp only [Then, InBlock, ↓reduceIte]
  refine awp_seq ?_
  refine awp_seq ?_
  refine awp_reg _ (by kernel_rfl) rfl ?_
  refine ops_prim rfl (by simp (disch := omega) only [evalPrim, ↓ev_tmp, ↓ev_const, ↓put_at, ↓put_none, ↓reduceIte, Nat.reduceEqDiff, argT_zero, argT_succ, ofConst, ofValue]; try rfl) ?_
  refine ops_nil ?_
  dsimp only [Then, InBlock, ↓reduceIte]
  refine awp_block ?_
  refine awp_loop (fun k T S => ∃ i : Nat, k = l.length - i ∧ i ≤ l.length ∧ T 0 = .c (.sl l.length (intsC l)) ∧ T 1 = .c (.int .i64 x) ∧ T 5 = .c (.int .i64 i) ∧ ∀ a, a < i → l.getD a 0 ≠ x) l.length ⟨0, rfl, by omega, rfl, rfl, rfl, fun a h => by omega⟩ ?_
  rintro k T S ⟨i, rfl, hi, h0, h1, h5, hno⟩
  refine awp_seq ?_
  refine awp_seq ?_
  refine awp_reg _ (by kernel_rfl) rfl ?_
  iterate 2 refine ops_prim rfl (by simp (disch := omega) only [evalPrim, ↓ev_tmp, ↓ev_const, ↓put_at, ↓put_none, ↓reduceIte, Nat.reduceEqDiff, argT_zero, argT_succ, h0, h5, Try.underlying29]; try rfl) ?_
  refine ops_prim rfl (by simp (disch := omega) only [evalPrim, ↓ev_tmp, ↓ev_const, ↓put_at, ↓put_none, ↓reduceIte, Nat.reduceEqDiff, argT_zero, argT_succ, tvLen, tvMax, tvMin, tvFold, tvAppend, srcOf, List.map_cons, List.map_nil, ofConst, ofValue, Option.map_some, reduceCtorEq, if_true, if_false, h0, h5, Try.underlying29]; try rfl) ?_
  refine ops_prim rfl (by simp (disch := omega) only [evalPrim, ↓ev_tmp, ↓ev_const, ↓put_at, ↓put_none, ↓reduceIte, Nat.reduceEqDiff, argT_zero, argT_succ, tvBinT, tvBinT.nil2, tvBinT.ptr2, tvBin, intBin, ofConst, ofValue, Option.map_some, reduceCtorEq, if_true, if_false, h0, h5, Try.underlying29]; try rfl) ?_
  refine ops_nil ?_
  dsimp only [Then, InBlock, ↓reduceIte]
  refine awp_ifc (by simp (disch := omega) only [evalPrim, ↓ev_tmp, ↓ev_const, ↓put_at, ↓put_none, ↓reduceIte, Nat.reduceEqDiff, argT_zero, argT_succ, Option.map_some, reduceCtorEq, if_true, if_false]; try rfl) (fun hc => ?_) (fun hc => ?_)
  · simp only [decide_eq_true_eq] at hc
    have hi2 : i < l.length := by omega
    refine awp_skip ?_
    dsimp only [Then, InBlock]
    refine awp_seq ?_
    refine awp_block ?_
    refine awp_seq ?_
    refine awp_reg _ (by kernel_rfl) rfl ?_
    iterate 2 refine ops_prim rfl (by simp (disch := omega) only [evalPrim, ↓ev_tmp, ↓ev_const, ↓put_at, ↓put_none, ↓reduceIte, Nat.reduceEqDiff, argT_zero, argT_succ, h0, h1, h5, Try.underlying29, Try.underlying3, sz3, by3, zero3, agg3, if_pos, Nat.mul_one, Nat.one_mul, Nat.zero_mul, Nat.sub_zero, Nat.zero_add, Int.toNat_natCast, intsC_get, List.drop_zero]; try rfl) ?_
    refine ops_prim rfl (by simp (disch := omega) only [evalPrim, ↓ev_tmp, ↓ev_const, ↓put_at, ↓put_none, ↓reduceIte, Nat.reduceEqDiff, argT_zero, argT_succ, tvIndexAddr, ofConst, ofValue, Option.map_some, reduceCtorEq, if_true, if_false, h0, h1, h5, Try.underlying29, Try.underlying3, sz3, by3, zero3, agg3, if_pos, Nat.mul_one, Nat.one_mul, Nat.zero_mul, Nat.sub_zero, Nat.zero_add, Int.toNat_natCast, intsC_get, List.drop_zero]; try rfl) ?_
    refine ops_prim rfl (by simp (disch := omega) only [evalPrim, ↓ev_tmp, ↓ev_const, ↓put_at, ↓put_none, ↓reduceIte, Nat.reduceEqDiff, argT_zero, argT_succ, tvLoad, at_set_same, at_pushed, List.length_cons, List.length_nil, Nat.reduceAdd, Nat.reduceLeDiff, Nat.zero_add, Nat.le_refl, List.drop_zero, List.drop_succ_cons, List.take_succ_cons, List.take_zero, List.getElem?_cons_zero, List.getElem?_cons_succ, Bool.false_eq_true, Option.map_some, reduceCtorEq, if_true, if_false, h0, h1, h5, Try.underlying29, Try.underlying3, sz3, by3, zero3, agg3, if_pos, Nat.mul_one, Nat.one_mul, Nat.zero_mul, Nat.sub_zero, Int.toNat_natCast, intsC_get]; try rfl) ?_
    refine ops_prim rfl (by simp (disch := omega) only [evalPrim, ↓ev_tmp, ↓ev_const, ↓put_at, ↓put_none, ↓reduceIte, Nat.reduceEqDiff, argT_zero, argT_succ, h0, h1, h5, Try.underlying29, Try.underlying3, sz3, by3, zero3, agg3, if_pos, Nat.mul_one, Nat.one_mul, Nat.zero_mul, Nat.sub_zero, Nat.zero_add, Int.toNat_natCast, intsC_get, List.drop_zero]; try rfl) ?_
    refine ops_prim rfl (by simp (disch := omega) only [evalPrim, ↓ev_tmp, ↓ev_const, ↓put_at, ↓put_none, ↓reduceIte, Nat.reduceEqDiff, argT_zero, argT_succ, tvBinT, tvBinT.nil2, tvBinT.ptr2, tvBin, intBin, ofConst, ofValue, Option.map_some, reduceCtorEq, if_true, if_false, h0, h1, h5, Try.underlying29, Try.underlying3, sz3, by3, zero3, agg3, if_pos, Nat.mul_one, Nat.one_mul, Nat.zero_mul, Nat.sub_zero, Nat.zero_add, Int.toNat_natCast, intsC_get, List.drop_zero]; try rfl) ?_
    refine ops_nil ?_
    dsimp only [Then, InBlock, ↓reduceIte]
    refine awp_ifc (by simp (disch := omega) only [evalPrim, ↓ev_tmp, ↓ev_const, ↓put_at, ↓put_none, ↓reduceIte, Nat.reduceEqDiff, argT_zero, argT_succ, Option.map_some, reduceCtorEq, if_true, if_false]; try rfl) (fun hc => ?_) (fun hc => ?_)
    · simp only [beq_iff_eq] at hc
      refine awp_seq ?_
      refine awp_reg _ (by kernel_rfl) rfl ?_
      refine ops_prim rfl (by simp (disch := omega) only [evalPrim, ↓ev_tmp, ↓ev_const, ↓put_at, ↓put_none, ↓reduceIte, Nat.reduceEqDiff, argT_zero, argT_succ, ofConst, ofValue]; try rfl) ?_
      refine ops_nil ?_
      dsimp only [Then, InBlock, ↓reduceIte]
      refine awp_ret ?_
      have hm : decide (x ∈ l) = true := by
        rw [decide_eq_true_eq, ← hc, List.getD_eq_getElem?_getD, List.getElem?_eq_getElem hi2]
        exact List.getElem_mem hi2
      rw [hm]
      exact ret_ok (vs := [.c (.bool true)]) rfl rfl
    · simp only [beq_eq_false_iff_ne] at hc
      refine awp_skip ?_
      dsimp only [Then, InBlock]
      refine awp_reg _ (by kernel_rfl) rfl ?_
      refine ops_prim rfl (by simp (disch := omega) only [evalPrim, ↓ev_tmp, ↓ev_const, ↓put_at, ↓put_none, ↓reduceIte, Nat.reduceEqDiff, argT_zero, argT_succ, h5]; try rfl) ?_
      refine ops_prim rfl (by simp (disch := omega) only [evalPrim, ↓ev_tmp, ↓ev_const, ↓put_at, ↓put_none, ↓reduceIte, Nat.reduceEqDiff, argT_zero, argT_succ, tvBinT, tvBinT.nil2, tvBinT.ptr2, tvBin, intBin, ofConst, ofValue, Option.map_some, reduceCtorEq, if_true, if_false, h5]; try rfl) ?_
      refine ops_prim rfl (by simp (disch := omega) only [evalPrim, ↓ev_tmp, ↓ev_const, ↓put_at, ↓put_none, ↓reduceIte, Nat.reduceEqDiff, argT_zero, argT_succ, ofConst, ofValue, h5]; try rfl) ?_
      refine ops_nil ?_
      dsimp only [Then, InBlock, ↓reduceIte]
      refine ⟨l.length - (i + 1), by omega, i + 1, rfl, by omega, h0, h1, ?_, fun a ha => ?_⟩
      · simp (disch := omega) only [evalPrim, ↓ev_tmp, ↓ev_const, ↓put_at, ↓put_none, ↓reduceIte, Nat.reduceEqDiff, argT_zero, argT_succ, Option.map_some, reduceCtorEq, if_true, if_false, at_set_same, at_pushed, next_push, next_set, next_empty, h5]
        rw [wr64 (by omega)]
        rfl
      · by_cases e : a = i
        · subst e; exact hc
        · exact hno a (by omega)
  · simp only [decide_eq_false_iff_not] at hc
    refine awp_exit ?_
    dsimp only [Then, InBlock]
    refine Eq.mpr (if_pos rfl) ?_
    refine awp_seq ?_
    refine awp_reg _ (by kernel_rfl) rfl ?_
    refine ops_prim rfl (by simp (disch := omega) only [evalPrim, ↓ev_tmp, ↓ev_const, ↓put_at, ↓put_none, ↓reduceIte, Nat.reduceEqDiff, argT_zero, argT_succ, ofConst, ofValue]; try rfl) ?_
    refine ops_nil ?_
    dsimp only [Then, InBlock, ↓reduceIte]
    refine awp_ret ?_
    have hm : decide (x ∈ l) = false := by
      rw [decide_eq_false_iff_not]
      intro hmem
      obtain ⟨a, ha, e⟩ := List.getElem_of_mem hmem
      refine hno a (by omega) ?_
      rw [List.getD_eq_getElem?_getD, List.getElem?_eq_getElem ha]
      exact e
    rw [hm]
    exact ret_ok (vs := [.c (.bool false)]) rfl rfl
end Go.Sim
