/- A part of the proof: the walks of this law's functions. -/
import Derived.Test.YtgobcpfcekgcfaaD14
namespace Go.Sim
open Go Go.Proofs
set_option maxRecDepth 4000
set_option autoImplicit false
set_option linter.unusedSimpArgs false
set_option linter.unusedVariables false
theorem smp_mem (d n k : Int) (i : Nat) (hi : i < (smp d n k).length) : ∃ a, a < (cl k (cn n).toNat).toNat ∧ (shufOf d n).2.getD a 0 = (smp d n k).getD i 0 := by
  have hm : (smp d n k)[i] ∈ (shufOf d n).2.take (cl k (cn n).toNat).toNat := by
    have h : (smp d n k)[i] ∈ smp d n k := List.getElem_mem hi
    exact List.mem_mergeSort.1 h
  obtain ⟨a, ha, e⟩ := List.getElem_of_mem hm
  rw [List.length_take] at ha
  refine ⟨a, by omega, ?_⟩
  rw [List.getElem_take] at e
  rw [List.getD_eq_getElem?_getD, List.getD_eq_getElem?_getD, List.getElem?_eq_getElem (by omega), List.getElem?_eq_getElem hi]
  exact e
theorem smp_inc (d n k : Int) (i : Nat) (hi : i + 1 < (smp d n k).length) : (smp d n k).getD i 0 < (smp d n k).getD (i + 1) 0 := by
  have h : (smp d n k).Pairwise (· < ·) := sort_lt ((shufOf_dist d n).nodup.sublist (List.take_sublist _ _))
  rw [List.pairwise_iff_getElem] at h
  have := h i (i + 1) (by omega) hi (by omega)
  simpa [List.getD_eq_getElem?_getD, hi, show i < (smp d n k).length by omega] using this

theorem drawsSubsets_ok (d n k : Int) : CCall Try.prog 10 [.c (.int .u64 d), .c (.int .i64 n), .c (.int .i64 k)] (.c (.bool true)) := by
  refine ccall_intro Try.func10 Try.ntmps10 rfl (Nat.le_of_ble_eq_true rfl) (by simp [Closed.c]) ?_
  refine awp_seq ?_
  refine awp_reg _ (by kernel_rfl) rfl ?_
  refine ops_prim rfl (by simp (disch := omega) only [evalPrim, ↓ev_tmp, ↓ev_const, ↓put_at, ↓put_none, ↓reduceIte, Nat.reduceEqDiff, argT_zero, argT_succ, ofConst, ofValue]; try rfl) ?_
  refine ops_nil ?_
  dsimp only [Then, InBlock, ↓reduceIte]
  refine awp_seq (awp_seq ?_)
  refine awp_cut (fun T S => T 0 = .c (.int .u64 d) ∧ T 1 = .c (.int .i64 n) ∧ T 2 = .c (.int .i64 k) ∧ T 24 = .c (.bool (decide (k < 0 ∨ k > n ∨ n > 300)))) ?_ ?_
  · by_cases h1 : k < 0
    · have e1 : decide (k < 0) = true := decide_eq_true h1
      have e : decide (k < 0 ∨ k > n ∨ n > 300) = true := decide_eq_true (.inl h1)
      refine awp_reg _ (by kernel_rfl) rfl ?_
      refine ops_prim rfl (by simp (disch := omega) only [evalPrim, ↓ev_tmp, ↓ev_const, ↓put_at, ↓put_none, ↓reduceIte, Nat.reduceEqDiff, argT_zero, argT_succ, e1]; try rfl) ?_
      refine ops_prim rfl (by simp (disch := omega) only [evalPrim, ↓ev_tmp, ↓ev_const, ↓put_at, ↓put_none, ↓reduceIte, Nat.reduceEqDiff, argT_zero, argT_succ, tvBinT, tvBinT.nil2, tvBinT.ptr2, tvBin, intBin, ofConst, ofValue, Option.map_some, reduceCtorEq, if_true, if_false, e1]; try rfl) ?_
      refine ops_prim rfl (by simp (disch := omega) only [evalPrim, ↓ev_tmp, ↓ev_const, ↓put_at, ↓put_none, ↓reduceIte, Nat.reduceEqDiff, argT_zero, argT_succ, e1]; try rfl) ?_
      iterate 3 refine ops_not 16 rfl rfl (by simp (disch := omega) only [evalPrim, ↓ev_tmp, ↓ev_const, ↓put_at, ↓put_none, ↓reduceIte, Nat.reduceEqDiff, argT_zero, argT_succ, Option.map_some, reduceCtorEq, if_true, if_false, beq_self_eq_true, bne_self_eq_false, Bool.not_true, Bool.not_false, e1]; try rfl) ?_
      refine ops_prim rfl (by simp (disch := omega) only [evalPrim, ↓ev_tmp, ↓ev_const, ↓put_at, ↓put_none, ↓reduceIte, Nat.reduceEqDiff, argT_zero, argT_succ, cond_true, cond_false, ofConst, ofValue, e1]; try rfl) ?_
      refine ops_prim rfl (by simp (disch := omega) only [evalPrim, ↓ev_tmp, ↓ev_const, ↓put_at, ↓put_none, ↓reduceIte, Nat.reduceEqDiff, argT_zero, argT_succ, e1]; try rfl) ?_
      iterate 2 refine ops_not 21 rfl rfl (by simp (disch := omega) only [evalPrim, ↓ev_tmp, ↓ev_const, ↓put_at, ↓put_none, ↓reduceIte, Nat.reduceEqDiff, argT_zero, argT_succ, Option.map_some, reduceCtorEq, if_true, if_false, beq_self_eq_true, bne_self_eq_false, Bool.not_true, Bool.not_false, e1]; try rfl) ?_
      refine ops_prim rfl (by simp (disch := omega) only [evalPrim, ↓ev_tmp, ↓ev_const, ↓put_at, ↓put_none, ↓reduceIte, Nat.reduceEqDiff, argT_zero, argT_succ, cond_true, cond_false, ofConst, ofValue, e1]; try rfl) ?_
      refine ops_nil ?_
      dsimp only [Then, InBlock, ↓reduceIte]
      rw [e]
      exact ⟨rfl, rfl, rfl, rfl⟩
    have e1 : decide (k < 0) = false := decide_eq_false h1
    by_cases h2 : k > n
    · have e2 : decide (k > n) = true := decide_eq_true h2
      have e : decide (k < 0 ∨ k > n ∨ n > 300) = true := decide_eq_true (.inr (.inl h2))
      refine awp_reg _ (by kernel_rfl) rfl ?_
      refine ops_prim rfl (by simp (disch := omega) only [evalPrim, ↓ev_tmp, ↓ev_const, ↓put_at, ↓put_none, ↓reduceIte, Nat.reduceEqDiff, argT_zero, argT_succ, e1, e2]; try rfl) ?_
      refine ops_prim rfl (by simp (disch := omega) only [evalPrim, ↓ev_tmp, ↓ev_const, ↓put_at, ↓put_none, ↓reduceIte, Nat.reduceEqDiff, argT_zero, argT_succ, tvBinT, tvBinT.nil2, tvBinT.ptr2, tvBin, intBin, ofConst, ofValue, Option.map_some, reduceCtorEq, if_true, if_false, e1, e2]; try rfl) ?_
      refine ops_prim rfl (by simp (disch := omega) only [evalPrim, ↓ev_tmp, ↓ev_const, ↓put_at, ↓put_none, ↓reduceIte, Nat.reduceEqDiff, argT_zero, argT_succ, e1, e2]; try rfl) ?_
      refine ops_yes 16 rfl rfl (by simp (disch := omega) only [evalPrim, ↓ev_tmp, ↓ev_const, ↓put_at, ↓put_none, ↓reduceIte, Nat.reduceEqDiff, argT_zero, argT_succ, Option.map_some, reduceCtorEq, if_true, if_false, beq_self_eq_true, bne_self_eq_false, Bool.not_true, Bool.not_false, e1, e2]; try rfl) ?_
      refine ops_prim rfl (by simp (disch := omega) only [evalPrim, ↓ev_tmp, ↓ev_const, ↓put_at, ↓put_none, ↓reduceIte, Nat.reduceEqDiff, argT_zero, argT_succ, e1, e2]; try rfl) ?_
      refine ops_yes 16 rfl rfl (by simp (disch := omega) only [evalPrim, ↓ev_tmp, ↓ev_const, ↓put_at, ↓put_none, ↓reduceIte, Nat.reduceEqDiff, argT_zero, argT_succ, Option.map_some, reduceCtorEq, if_true, if_false, beq_self_eq_true, bne_self_eq_false, Bool.not_true, Bool.not_false, e1, e2]; try rfl) ?_
      refine ops_prim rfl (by simp (disch := omega) only [evalPrim, ↓ev_tmp, ↓ev_const, ↓put_at, ↓put_none, ↓reduceIte, Nat.reduceEqDiff, argT_zero, argT_succ, e1, e2]; try rfl) ?_
      refine ops_yes 16 rfl rfl (by simp (disch := omega) only [evalPrim, ↓ev_tmp, ↓ev_const, ↓put_at, ↓put_none, ↓reduceIte, Nat.reduceEqDiff, argT_zero, argT_succ, Option.map_some, reduceCtorEq, if_true, if_false, beq_self_eq_true, bne_self_eq_false, Bool.not_true, Bool.not_false, e1, e2]; try rfl) ?_
      refine ops_prim rfl (by simp (disch := omega) only [evalPrim, ↓ev_tmp, ↓ev_const, ↓put_at, ↓put_none, ↓reduceIte, Nat.reduceEqDiff, argT_zero, argT_succ, tvBinT, tvBinT.nil2, tvBinT.ptr2, tvBin, intBin, ofConst, ofValue, Option.map_some, reduceCtorEq, if_true, if_false, e1, e2]; try rfl) ?_
      refine ops_prim rfl (by simp (disch := omega) only [evalPrim, ↓ev_tmp, ↓ev_const, ↓put_at, ↓put_none, ↓reduceIte, Nat.reduceEqDiff, argT_zero, argT_succ, cond_true, cond_false, ofConst, ofValue, e1, e2]; try rfl) ?_
      refine ops_prim rfl (by simp (disch := omega) only [evalPrim, ↓ev_tmp, ↓ev_const, ↓put_at, ↓put_none, ↓reduceIte, Nat.reduceEqDiff, argT_zero, argT_succ, e1, e2]; try rfl) ?_
      iterate 2 refine ops_not 21 rfl rfl (by simp (disch := omega) only [evalPrim, ↓ev_tmp, ↓ev_const, ↓put_at, ↓put_none, ↓reduceIte, Nat.reduceEqDiff, argT_zero, argT_succ, Option.map_some, reduceCtorEq, if_true, if_false, beq_self_eq_true, bne_self_eq_false, Bool.not_true, Bool.not_false, e1, e2]; try rfl) ?_
      refine ops_prim rfl (by simp (disch := omega) only [evalPrim, ↓ev_tmp, ↓ev_const, ↓put_at, ↓put_none, ↓reduceIte, Nat.reduceEqDiff, argT_zero, argT_succ, cond_true, cond_false, ofConst, ofValue, e1, e2]; try rfl) ?_
      refine ops_nil ?_
      dsimp only [Then, InBlock, ↓reduceIte]
      rw [e]
      exact ⟨rfl, rfl, rfl, rfl⟩
    have e2 : decide (k > n) = false := decide_eq_false h2
    have e : decide (k < 0 ∨ k > n ∨ n > 300) = decide (n > 300) := by simp [h1, h2]
    refine awp_reg _ (by kernel_rfl) rfl ?_
    refine ops_prim rfl (by simp (disch := omega) only [evalPrim, ↓ev_tmp, ↓ev_const, ↓put_at, ↓put_none, ↓reduceIte, Nat.reduceEqDiff, argT_zero, argT_succ, e1, e2]; try rfl) ?_
    refine ops_prim rfl (by simp (disch := omega) only [evalPrim, ↓ev_tmp, ↓ev_const, ↓put_at, ↓put_none, ↓reduceIte, Nat.reduceEqDiff, argT_zero, argT_succ, tvBinT, tvBinT.nil2, tvBinT.ptr2, tvBin, intBin, ofConst, ofValue, Option.map_some, reduceCtorEq, if_true, if_false, e1, e2]; try rfl) ?_
    refine ops_prim rfl (by simp (disch := omega) only [evalPrim, ↓ev_tmp, ↓ev_const, ↓put_at, ↓put_none, ↓reduceIte, Nat.reduceEqDiff, argT_zero, argT_succ, e1, e2]; try rfl) ?_
    refine ops_yes 16 rfl rfl (by simp (disch := omega) only [evalPrim, ↓ev_tmp, ↓ev_const, ↓put_at, ↓put_none, ↓reduceIte, Nat.reduceEqDiff, argT_zero, argT_succ, Option.map_some, reduceCtorEq, if_true, if_false, beq_self_eq_true, bne_self_eq_false, Bool.not_true, Bool.not_false, e1, e2]; try rfl) ?_
    refine ops_prim rfl (by simp (disch := omega) only [evalPrim, ↓ev_tmp, ↓ev_const, ↓put_at, ↓put_none, ↓reduceIte, Nat.reduceEqDiff, argT_zero, argT_succ, e1, e2]; try rfl) ?_
    refine ops_yes 16 rfl rfl (by simp (disch := omega) only [evalPrim, ↓ev_tmp, ↓ev_const, ↓put_at, ↓put_none, ↓reduceIte, Nat.reduceEqDiff, argT_zero, argT_succ, Option.map_some, reduceCtorEq, if_true, if_false, beq_self_eq_true, bne_self_eq_false, Bool.not_true, Bool.not_false, e1, e2]; try rfl) ?_
    refine ops_prim rfl (by simp (disch := omega) only [evalPrim, ↓ev_tmp, ↓ev_const, ↓put_at, ↓put_none, ↓reduceIte, Nat.reduceEqDiff, argT_zero, argT_succ, e1, e2]; try rfl) ?_
    refine ops_yes 16 rfl rfl (by simp (disch := omega) only [evalPrim, ↓ev_tmp, ↓ev_const, ↓put_at, ↓put_none, ↓reduceIte, Nat.reduceEqDiff, argT_zero, argT_succ, Option.map_some, reduceCtorEq, if_true, if_false, beq_self_eq_true, bne_self_eq_false, Bool.not_true, Bool.not_false, e1, e2]; try rfl) ?_
    refine ops_prim rfl (by simp (disch := omega) only [evalPrim, ↓ev_tmp, ↓ev_const, ↓put_at, ↓put_none, ↓reduceIte, Nat.reduceEqDiff, argT_zero, argT_succ, tvBinT, tvBinT.nil2, tvBinT.ptr2, tvBin, intBin, ofConst, ofValue, Option.map_some, reduceCtorEq, if_true, if_false, e1, e2]; try rfl) ?_
    refine ops_prim rfl (by simp (disch := omega) only [evalPrim, ↓ev_tmp, ↓ev_const, ↓put_at, ↓put_none, ↓reduceIte, Nat.reduceEqDiff, argT_zero, argT_succ, cond_true, cond_false, ofConst, ofValue, e1, e2]; try rfl) ?_
    refine ops_prim rfl (by simp (disch := omega) only [evalPrim, ↓ev_tmp, ↓ev_const, ↓put_at, ↓put_none, ↓reduceIte, Nat.reduceEqDiff, argT_zero, argT_succ, e1, e2]; try rfl) ?_
    refine ops_yes 21 rfl rfl (by simp (disch := omega) only [evalPrim, ↓ev_tmp, ↓ev_const, ↓put_at, ↓put_none, ↓reduceIte, Nat.reduceEqDiff, argT_zero, argT_succ, Option.map_some, reduceCtorEq, if_true, if_false, beq_self_eq_true, bne_self_eq_false, Bool.not_true, Bool.not_false, e1, e2]; try rfl) ?_
    refine ops_prim rfl (by simp (disch := omega) only [evalPrim, ↓ev_tmp, ↓ev_const, ↓put_at, ↓put_none, ↓reduceIte, Nat.reduceEqDiff, argT_zero, argT_succ, e1, e2]; try rfl) ?_
    refine ops_yes 21 rfl rfl (by simp (disch := omega) only [evalPrim, ↓ev_tmp, ↓ev_const, ↓put_at, ↓put_none, ↓reduceIte, Nat.reduceEqDiff, argT_zero, argT_succ, Option.map_some, reduceCtorEq, if_true, if_false, beq_self_eq_true, bne_self_eq_false, Bool.not_true, Bool.not_false, e1, e2]; try rfl) ?_
    refine ops_prim rfl (by simp (disch := omega) only [evalPrim, ↓ev_tmp, ↓ev_const, ↓put_at, ↓put_none, ↓reduceIte, Nat.reduceEqDiff, argT_zero, argT_succ, tvBinT, tvBinT.nil2, tvBinT.ptr2, tvBin, intBin, ofConst, ofValue, Option.map_some, reduceCtorEq, if_true, if_false, e1, e2]; try rfl) ?_
    refine ops_prim rfl (by simp (disch := omega) only [evalPrim, ↓ev_tmp, ↓ev_const, ↓put_at, ↓put_none, ↓reduceIte, Nat.reduceEqDiff, argT_zero, argT_succ, cond_true, cond_false, ofConst, ofValue, e1, e2]; try rfl) ?_
    refine ops_nil ?_
    dsimp only [Then, InBlock, ↓reduceIte]
    rw [e]
    exact ⟨rfl, rfl, rfl, rfl⟩
  · rintro T S ⟨h0, h1, h2, h24⟩
    refine awp_ifc (by simp (disch := omega) only [evalPrim, ↓ev_tmp, ↓ev_const, ↓put_at, ↓put_none, ↓reduceIte, Nat.reduceEqDiff, argT_zero, argT_succ, Option.map_some, reduceCtorEq, if_true, if_false, h24]; try rfl) (fun hc => ?_) (fun hc => ?_)
    · refine awp_seq ?_
      refine awp_reg _ (by kernel_rfl) rfl ?_
      refine ops_call rfl rfl (by simp (disch := omega) only [callOf, List.nil_append, List.append_nil, List.cons_append, List.map_cons, List.map_nil, ofConst, ofValue, evalPrim, ↓ev_tmp, ↓ev_const, ↓put_at, ↓put_none, ↓reduceIte, Nat.reduceEqDiff, argT_zero, argT_succ]; rfl) (by kernel_rfl) (by kernel_rfl) (awake_ok) ?_
      refine ops_prim rfl (by simp (disch := omega) only [evalPrim, ↓ev_tmp, ↓ev_const, ↓put_at, ↓put_none, ↓reduceIte, Nat.reduceEqDiff, argT_zero, argT_succ, ofConst, ofValue]; try rfl) ?_
      refine ops_nil ?_
      dsimp only [Then, InBlock, ↓reduceIte]
      refine awp_ret ?_
      exact ret_ok (vs := [.c (.bool true)]) rfl rfl
    · simp only [decide_eq_false_iff_not] at hc
      obtain ⟨N, rfl⟩ : ∃ N : Nat, n = (N : Int) := ⟨n.toNat, by omega⟩
      obtain ⟨K, rfl⟩ : ∃ K : Nat, k = (K : Int) := ⟨k.toNat, by omega⟩
      have hcn : (cn (N : Int)).toNat = N := by unfold cn mx mn; split <;> split <;> omega
      have hclK : (cl (K : Int) N).toNat = K := by unfold cl mx mn; split <;> split <;> omega
      have hLl := shufOf_len d N
      have hsl := smp_len d N K
      have hmem := smp_mem d N K
      have hinc := smp_inc d N K
      rw [hcn] at hLl hsl hmem
      rw [hclK] at hsl hmem
      refine awp_skip ?_
      dsimp only [Then, InBlock]
      refine awp_seq ?_
      refine awp_reg _ (by kernel_rfl) rfl ?_
      iterate 3 refine ops_prim rfl (by simp (disch := omega) only [evalPrim, ↓ev_tmp, ↓ev_const, ↓put_at, ↓put_none, ↓reduceIte, Nat.reduceEqDiff, argT_zero, argT_succ, h0, h1, h2, hcn, hclK]; try rfl) ?_
      refine ops_call rfl rfl (by simp (disch := omega) only [callOf, List.nil_append, List.append_nil, List.cons_append, List.map_cons, List.map_nil, ofConst, ofValue, evalPrim, ↓ev_tmp, ↓ev_const, ↓put_at, ↓put_none, ↓reduceIte, Nat.reduceEqDiff, argT_zero, argT_succ, h0, h1, h2, hcn, hclK]; rfl) (by kernel_rfl) (by kernel_rfl) (sample_c _ _ _) ?_
      refine ops_prim rfl (by simp (disch := omega) only [evalPrim, ↓ev_tmp, ↓ev_const, ↓put_at, ↓put_none, ↓reduceIte, Nat.reduceEqDiff, argT_zero, argT_succ, h0, h1, h2, hcn, hclK]; try rfl) ?_
      iterate 2 refine ops_prim rfl (by simp (disch := omega) only [evalPrim, ↓ev_tmp, ↓ev_const, ↓put_at, ↓put_none, ↓reduceIte, Nat.reduceEqDiff, argT_zero, argT_succ, tvExtract, List.getElem?_cons_zero, List.getElem?_cons_succ, Option.map_some, reduceCtorEq, if_true, if_false, h0, h1, h2, hcn, hclK]; try rfl) ?_
      iterate 2 refine ops_prim rfl (by simp (disch := omega) only [evalPrim, ↓ev_tmp, ↓ev_const, ↓put_at, ↓put_none, ↓reduceIte, Nat.reduceEqDiff, argT_zero, argT_succ, ofConst, ofValue, h0, h1, h2, hcn, hclK]; try rfl) ?_
      refine ops_nil ?_
      dsimp only [Then, InBlock, ↓reduceIte]
      refine awp_seq ?_
      refine awp_reg _ (by kernel_rfl) rfl ?_
      iterate 2 refine ops_prim rfl (by simp (disch := omega) only [evalPrim, ↓ev_tmp, ↓ev_const, ↓put_at, ↓put_none, ↓reduceIte, Nat.reduceEqDiff, argT_zero, argT_succ, h0, h1, shufV, hcn]; try rfl) ?_
      refine ops_call rfl rfl (by simp (disch := omega) only [callOf, List.nil_append, List.append_nil, List.cons_append, List.map_cons, List.map_nil, ofConst, ofValue, evalPrim, ↓ev_tmp, ↓ev_const, ↓put_at, ↓put_none, ↓reduceIte, Nat.reduceEqDiff, argT_zero, argT_succ, h0, h1, shufV, hcn]; rfl) (by kernel_rfl) (by kernel_rfl) (shuffle_c _ _) ?_
      refine ops_prim rfl (by simp (disch := omega) only [evalPrim, ↓ev_tmp, ↓ev_const, ↓put_at, ↓put_none, ↓reduceIte, Nat.reduceEqDiff, argT_zero, argT_succ, h0, h1, shufV, hcn]; try rfl) ?_
      iterate 2 refine ops_prim rfl (by simp (disch := omega) only [evalPrim, ↓ev_tmp, ↓ev_const, ↓put_at, ↓put_none, ↓reduceIte, Nat.reduceEqDiff, argT_zero, argT_succ, tvExtract, List.getElem?_cons_zero, List.getElem?_cons_succ, Option.map_some, reduceCtorEq, if_true, if_false, h0, h1, shufV, hcn]; try rfl) ?_
      iterate 2 refine ops_prim rfl (by simp (disch := omega) only [evalPrim, ↓ev_tmp, ↓ev_const, ↓put_at, ↓put_none, ↓reduceIte, Nat.reduceEqDiff, argT_zero, argT_succ, ofConst, ofValue, h0, h1, shufV, hcn]; try rfl) ?_
      refine ops_nil ?_
      dsimp only [Then, InBlock, ↓reduceIte]
      refine awp_seq ?_
      refine awp_seq ?_
      refine awp_reg _ (by kernel_rfl) rfl ?_
      iterate 2 refine ops_prim rfl (by simp (disch := omega) only [evalPrim, ↓ev_tmp, ↓ev_const, ↓put_at, ↓put_none, ↓reduceIte, Nat.reduceEqDiff, argT_zero, argT_succ, h1, h2, Try.underlying29, bne_self_eq_false]; try rfl) ?_
      refine ops_prim rfl (by simp (disch := omega) only [evalPrim, ↓ev_tmp, ↓ev_const, ↓put_at, ↓put_none, ↓reduceIte, Nat.reduceEqDiff, argT_zero, argT_succ, tvBinT, tvBinT.nil2, tvBinT.ptr2, tvBin, intBin, ofConst, ofValue, Option.map_some, reduceCtorEq, if_true, if_false, h1, h2, Try.underlying29, bne_self_eq_false]; try rfl) ?_
      refine ops_prim rfl (by simp (disch := omega) only [evalPrim, ↓ev_tmp, ↓ev_const, ↓put_at, ↓put_none, ↓reduceIte, Nat.reduceEqDiff, argT_zero, argT_succ, h1, h2, Try.underlying29, bne_self_eq_false]; try rfl) ?_
      refine ops_yes 42 rfl rfl (by simp (disch := omega) only [evalPrim, ↓ev_tmp, ↓ev_const, ↓put_at, ↓put_none, ↓reduceIte, Nat.reduceEqDiff, argT_zero, argT_succ, Option.map_some, reduceCtorEq, if_true, if_false, beq_self_eq_true, bne_self_eq_false, Bool.not_true, Bool.not_false, h1, h2, Try.underlying29]; try rfl) ?_
      refine ops_prim rfl (by simp (disch := omega) only [evalPrim, ↓ev_tmp, ↓ev_const, ↓put_at, ↓put_none, ↓reduceIte, Nat.reduceEqDiff, argT_zero, argT_succ, h1, h2, Try.underlying29, bne_self_eq_false]; try rfl) ?_
      refine ops_yes 42 rfl rfl (by simp (disch := omega) only [evalPrim, ↓ev_tmp, ↓ev_const, ↓put_at, ↓put_none, ↓reduceIte, Nat.reduceEqDiff, argT_zero, argT_succ, Option.map_some, reduceCtorEq, if_true, if_false, beq_self_eq_true, bne_self_eq_false, Bool.not_true, Bool.not_false, h1, h2, Try.underlying29]; try rfl) ?_
      refine ops_prim rfl (by simp (disch := omega) only [evalPrim, ↓ev_tmp, ↓ev_const, ↓put_at, ↓put_none, ↓reduceIte, Nat.reduceEqDiff, argT_zero, argT_succ, tvLen, tvMax, tvMin, tvFold, srcOf, List.map_cons, List.map_nil, ofConst, ofValue, Option.map_some, reduceCtorEq, if_true, if_false, h1, h2, Try.underlying29, bne_self_eq_false]; try rfl) ?_
      refine ops_yes 42 rfl rfl (by simp (disch := omega) only [evalPrim, ↓ev_tmp, ↓ev_const, ↓put_at, ↓put_none, ↓reduceIte, Nat.reduceEqDiff, argT_zero, argT_succ, Option.map_some, reduceCtorEq, if_true, if_false, beq_self_eq_true, bne_self_eq_false, Bool.not_true, Bool.not_false, h1, h2, Try.underlying29]; try rfl) ?_
      refine ops_prim rfl (by simp (disch := omega) only [evalPrim, ↓ev_tmp, ↓ev_const, ↓put_at, ↓put_none, ↓reduceIte, Nat.reduceEqDiff, argT_zero, argT_succ, h1, h2, Try.underlying29, bne_self_eq_false]; try rfl) ?_
      refine ops_yes 42 rfl rfl (by simp (disch := omega) only [evalPrim, ↓ev_tmp, ↓ev_const, ↓put_at, ↓put_none, ↓reduceIte, Nat.reduceEqDiff, argT_zero, argT_succ, Option.map_some, reduceCtorEq, if_true, if_false, beq_self_eq_true, bne_self_eq_false, Bool.not_true, Bool.not_false, h1, h2, Try.underlying29]; try rfl) ?_
      refine ops_prim rfl (by simp (disch := omega) only [evalPrim, ↓ev_tmp, ↓ev_const, ↓put_at, ↓put_none, ↓reduceIte, Nat.reduceEqDiff, argT_zero, argT_succ, tvBinT, tvBinT.nil2, tvBinT.ptr2, tvBin, intBin, ofConst, ofValue, Option.map_some, reduceCtorEq, if_true, if_false, h1, h2, Try.underlying29, bne_self_eq_false]; try rfl) ?_
      refine ops_prim rfl (by simp (disch := omega) only [evalPrim, ↓ev_tmp, ↓ev_const, ↓put_at, ↓put_none, ↓reduceIte, Nat.reduceEqDiff, argT_zero, argT_succ, cond_true, cond_false, ofConst, ofValue, h1, h2, Try.underlying29, bne_self_eq_false]; try rfl) ?_
      refine ops_prim rfl (by simp (disch := omega) only [evalPrim, ↓ev_tmp, ↓ev_const, ↓put_at, ↓put_none, ↓reduceIte, Nat.reduceEqDiff, argT_zero, argT_succ, h1, h2, Try.underlying29, bne_self_eq_false]; try rfl) ?_
      refine ops_yes 48 rfl rfl (by simp (disch := omega) only [evalPrim, ↓ev_tmp, ↓ev_const, ↓put_at, ↓put_none, ↓reduceIte, Nat.reduceEqDiff, argT_zero, argT_succ, Option.map_some, reduceCtorEq, if_true, if_false, beq_self_eq_true, bne_self_eq_false, Bool.not_true, Bool.not_false, h1, h2, Try.underlying29]; try rfl) ?_
      refine ops_prim rfl (by simp (disch := omega) only [evalPrim, ↓ev_tmp, ↓ev_const, ↓put_at, ↓put_none, ↓reduceIte, Nat.reduceEqDiff, argT_zero, argT_succ, h1, h2, Try.underlying29, bne_self_eq_false]; try rfl) ?_
      refine ops_yes 48 rfl rfl (by simp (disch := omega) only [evalPrim, ↓ev_tmp, ↓ev_const, ↓put_at, ↓put_none, ↓reduceIte, Nat.reduceEqDiff, argT_zero, argT_succ, Option.map_some, reduceCtorEq, if_true, if_false, beq_self_eq_true, bne_self_eq_false, Bool.not_true, Bool.not_false, h1, h2, Try.underlying29]; try rfl) ?_
      refine ops_prim rfl (by simp (disch := omega) only [evalPrim, ↓ev_tmp, ↓ev_const, ↓put_at, ↓put_none, ↓reduceIte, Nat.reduceEqDiff, argT_zero, argT_succ, tvLen, tvMax, tvMin, tvFold, srcOf, List.map_cons, List.map_nil, ofConst, ofValue, Option.map_some, reduceCtorEq, if_true, if_false, h1, h2, Try.underlying29, bne_self_eq_false]; try rfl) ?_
      refine ops_yes 48 rfl rfl (by simp (disch := omega) only [evalPrim, ↓ev_tmp, ↓ev_const, ↓put_at, ↓put_none, ↓reduceIte, Nat.reduceEqDiff, argT_zero, argT_succ, Option.map_some, reduceCtorEq, if_true, if_false, beq_self_eq_true, bne_self_eq_false, Bool.not_true, Bool.not_false, h1, h2, Try.underlying29]; try rfl) ?_
      refine ops_prim rfl (by simp (disch := omega) only [evalPrim, ↓ev_tmp, ↓ev_const, ↓put_at, ↓put_none, ↓reduceIte, Nat.reduceEqDiff, argT_zero, argT_succ, h1, h2, Try.underlying29, bne_self_eq_false]; try rfl) ?_
      refine ops_yes 48 rfl rfl (by simp (disch := omega) only [evalPrim, ↓ev_tmp, ↓ev_const, ↓put_at, ↓put_none, ↓reduceIte, Nat.reduceEqDiff, argT_zero, argT_succ, Option.map_some, reduceCtorEq, if_true, if_false, beq_self_eq_true, bne_self_eq_false, Bool.not_true, Bool.not_false, h1, h2, Try.underlying29]; try rfl) ?_
      refine ops_prim rfl (by simp (disch := omega) only [evalPrim, ↓ev_tmp, ↓ev_const, ↓put_at, ↓put_none, ↓reduceIte, Nat.reduceEqDiff, argT_zero, argT_succ, tvBinT, tvBinT.nil2, tvBinT.ptr2, tvBin, intBin, ofConst, ofValue, Option.map_some, reduceCtorEq, if_true, if_false, h1, h2, Try.underlying29, bne_self_eq_false]; try rfl) ?_
      refine ops_prim rfl (by simp (disch := omega) only [evalPrim, ↓ev_tmp, ↓ev_const, ↓put_at, ↓put_none, ↓reduceIte, Nat.reduceEqDiff, argT_zero, argT_succ, cond_true, cond_false, ofConst, ofValue, h1, h2, Try.underlying29, bne_self_eq_false]; try rfl) ?_
      refine ops_nil ?_
      dsimp only [Then, InBlock, ↓reduceIte]
      generalize (shufOf d N).2 = L at *
      generalize smp d N K = s at *
      generalize (shufOf d N).1 = d1 at *
      refine awp_ifc (by simp (disch := omega) only [evalPrim, ↓ev_tmp, ↓ev_const, ↓put_at, ↓put_none, ↓reduceIte, Nat.reduceEqDiff, argT_zero, argT_succ, Option.map_some, reduceCtorEq, if_true, if_false]; try rfl) (fun hc => ?_) (fun hc => ?_)
      · simp at hc
      · refine awp_skip ?_
        dsimp only [Then, InBlock]
        refine awp_seq ?_
        refine awp_seq ?_
        refine awp_reg _ (by kernel_rfl) rfl ?_
        refine ops_prim rfl (by simp (disch := omega) only [evalPrim, ↓ev_tmp, ↓ev_const, ↓put_at, ↓put_none, ↓reduceIte, Nat.reduceEqDiff, argT_zero, argT_succ, ofConst, ofValue]; try rfl) ?_
        refine ops_nil ?_
        dsimp only [Then, InBlock, ↓reduceIte]
        refine awp_block ?_
        refine awp_loop (fun r T S => ∃ i : Nat, r = K - i ∧ i ≤ K ∧ T 2 = .c (.int .i64 K) ∧ T 8 = .c (.sl K (intsC s)) ∧ T 10 = .c (.sl N (intsC L)) ∧ T 11 = .c (.int .i64 i)) K ⟨0, rfl, by omega, h2, rfl, rfl, rfl⟩ ?_
        clear h0 h1 h2 h24
        rintro r T S ⟨i, rfl, hi, h2, h8, h10, h11⟩
        refine awp_seq ?_
        refine awp_seq ?_
        refine awp_reg _ (by kernel_rfl) rfl ?_
        iterate 2 refine ops_prim rfl (by simp (disch := omega) only [evalPrim, ↓ev_tmp, ↓ev_const, ↓put_at, ↓put_none, ↓reduceIte, Nat.reduceEqDiff, argT_zero, argT_succ, h2, h11]; try rfl) ?_
        refine ops_prim rfl (by simp (disch := omega) only [evalPrim, ↓ev_tmp, ↓ev_const, ↓put_at, ↓put_none, ↓reduceIte, Nat.reduceEqDiff, argT_zero, argT_succ, tvBinT, tvBinT.nil2, tvBinT.ptr2, tvBin, intBin, ofConst, ofValue, Option.map_some, reduceCtorEq, if_true, if_false, h2, h11]; try rfl) ?_
        refine ops_nil ?_
        dsimp only [Then, InBlock, ↓reduceIte]
        refine awp_ifc (by simp (disch := omega) only [evalPrim, ↓ev_tmp, ↓ev_const, ↓put_at, ↓put_none, ↓reduceIte, Nat.reduceEqDiff, argT_zero, argT_succ, Option.map_some, reduceCtorEq, if_true, if_false]; try rfl) (fun hc => ?_) (fun hc => ?_)
        · simp only [decide_eq_true_eq] at hc
          have hiK : i < K := by omega
          refine awp_skip ?_
          dsimp only [Then, InBlock]
          refine awp_seq ?_
          refine awp_block ?_
          refine awp_seq ?_
          refine awp_reg _ (by kernel_rfl) rfl ?_
          refine ops_prim rfl (by simp (disch := omega) only [evalPrim, ↓ev_tmp, ↓ev_const, ↓put_at, ↓put_none, ↓reduceIte, Nat.reduceEqDiff, argT_zero, argT_succ, ofConst, ofValue]; try rfl) ?_
          refine ops_nil ?_
          dsimp only [Then, InBlock, ↓reduceIte]
          refine awp_seq ?_
          refine awp_seq ?_
          refine awp_reg _ (by kernel_rfl) rfl ?_
          refine ops_prim rfl (by simp (disch := omega) only [evalPrim, ↓ev_tmp, ↓ev_const, ↓put_at, ↓put_none, ↓reduceIte, Nat.reduceEqDiff, argT_zero, argT_succ, ofConst, ofValue]; try rfl) ?_
          refine ops_nil ?_
          dsimp only [Then, InBlock, ↓reduceIte]
          refine awp_block ?_
          refine awp_loop (fun r T S => ∃ (j : Nat) (f : Bool), r = K - j ∧ j ≤ K ∧ T 2 = .c (.int .i64 K) ∧ T 8 = .c (.sl K (intsC s)) ∧ T 10 = .c (.sl N (intsC L)) ∧ T 11 = .c (.int .i64 i) ∧ T 13 = .c (.int .i64 j) ∧ T 12 = .c (.bool f) ∧
            (f = true ↔ ∃ a, a < j ∧ L.getD a 0 = s.getD i 0)) K ⟨0, false, rfl, by omega, h2, h8, h10, h11, rfl, rfl, by simp⟩ ?_
          clear h2 h8 h10 h11
          rintro r T S ⟨j, f, rfl, hj, h2, h8, h10, h11, h13, h12, hf⟩
          refine awp_seq ?_
          refine awp_seq ?_
          refine awp_reg _ (by kernel_rfl) rfl ?_
          iterate 2 refine ops_prim rfl (by simp (disch := omega) only [evalPrim, ↓ev_tmp, ↓ev_const, ↓put_at, ↓put_none, ↓reduceIte, Nat.reduceEqDiff, argT_zero, argT_succ, h2, h13]; try rfl) ?_
          refine ops_prim rfl (by simp (disch := omega) only [evalPrim, ↓ev_tmp, ↓ev_const, ↓put_at, ↓put_none, ↓reduceIte, Nat.reduceEqDiff, argT_zero, argT_succ, tvBinT, tvBinT.nil2, tvBinT.ptr2, tvBin, intBin, ofConst, ofValue, Option.map_some, reduceCtorEq, if_true, if_false, h2, h13]; try rfl) ?_
          refine ops_nil ?_
          dsimp only [Then, InBlock, ↓reduceIte]
          refine awp_ifc (by simp (disch := omega) only [evalPrim, ↓ev_tmp, ↓ev_const, ↓put_at, ↓put_none, ↓reduceIte, Nat.reduceEqDiff, argT_zero, argT_succ, Option.map_some, reduceCtorEq, if_true, if_false]; try rfl) (fun hc => ?_) (fun hc => ?_)
          · simp only [decide_eq_true_eq] at hc
            have hjK : j < K := by omega
            have w1 : IntKind.wrap .i64 ((j : Int) + 1) = ((j + 1 : Nat) : Int) := by rw [wr64 (by omega)]; omega
            refine awp_skip ?_
            dsimp only [Then, InBlock]
            refine awp_seq ?_
            refine awp_block ?_
            cases f with
            | true =>
              refine awp_regD _ (by kernel_rfl) (by kernel_rfl) (by kernel_rfl) rfl ?_
              iterate 2 refine opd_prim rfl (by simp (disch := omega) only [evalPrim, ↓ev_tmp, ↓ev_const, ↓put_at, ↓put_none, ↓reduceIte, Nat.reduceEqDiff, argT_zero, argT_succ, h12]; try rfl) ?_
              iterate 9 refine opd_not 65 rfl rfl (by simp (disch := omega) only [evalPrim, ↓ev_tmp, ↓ev_const, ↓put_at, ↓put_none, ↓reduceIte, Nat.reduceEqDiff, argT_zero, argT_succ, Option.map_some, reduceCtorEq, if_true, if_false, beq_self_eq_true, bne_self_eq_false, Bool.not_true, Bool.not_false, h12]; try rfl) ?_
              refine opd_prim rfl (by simp (disch := omega) only [evalPrim, ↓ev_tmp, ↓ev_const, ↓put_at, ↓put_none, ↓reduceIte, Nat.reduceEqDiff, argT_zero, argT_succ, cond_true, cond_false, ofConst, ofValue, h12]; try rfl) ?_
              refine opd_prim rfl (by simp (disch := omega) only [evalPrim, ↓ev_tmp, ↓ev_const, ↓put_at, ↓put_none, ↓reduceIte, Nat.reduceEqDiff, argT_zero, argT_succ, ofConst, ofValue, h12]; try rfl) ?_
              refine opd_nil ?_
              dsimp only [Then, InBlock, ↓reduceIte]
              refine awp_reg _ (by kernel_rfl) rfl ?_
              refine ops_prim rfl (by simp (disch := omega) only [evalPrim, ↓ev_tmp, ↓ev_const, ↓put_at, ↓put_none, ↓reduceIte, Nat.reduceEqDiff, argT_zero, argT_succ, h13, w1]; try rfl) ?_
              refine ops_prim rfl (by simp (disch := omega) only [evalPrim, ↓ev_tmp, ↓ev_const, ↓put_at, ↓put_none, ↓reduceIte, Nat.reduceEqDiff, argT_zero, argT_succ, tvBinT, tvBinT.nil2, tvBinT.ptr2, tvBin, intBin, ofConst, ofValue, Option.map_some, reduceCtorEq, if_true, if_false, h13, w1]; try rfl) ?_
              refine ops_prim rfl (by simp (disch := omega) only [evalPrim, ↓ev_tmp, ↓ev_const, ↓put_at, ↓put_none, ↓reduceIte, Nat.reduceEqDiff, argT_zero, argT_succ, ofConst, ofValue, h13, w1]; try rfl) ?_
              refine ops_nil ?_
              dsimp only [Then, InBlock, ↓reduceIte]
              refine ⟨K - (j + 1), by omega, j + 1, true, rfl, by omega, h2, h8, h10, h11, rfl, rfl, ?_⟩
              obtain ⟨a, ha, e⟩ := hf.1 rfl
              exact ⟨fun _ => ⟨a, by omega, e⟩, fun _ => rfl⟩
            | false =>
              refine awp_regD _ (by kernel_rfl) (by kernel_rfl) (by kernel_rfl) rfl ?_
              iterate 2 refine opd_prim rfl (by simp (disch := omega) only [evalPrim, ↓ev_tmp, ↓ev_const, ↓put_at, ↓put_none, ↓reduceIte, Nat.reduceEqDiff, argT_zero, argT_succ, h8, h10, h11, h12, h13, Try.underlying29, Try.underlying3, sz3, agg3, if_pos, Nat.mul_one, Nat.zero_add, Int.toNat_natCast, intsC_get, List.drop_zero]; try rfl) ?_
              refine opd_yes 65 rfl rfl (by simp (disch := omega) only [evalPrim, ↓ev_tmp, ↓ev_const, ↓put_at, ↓put_none, ↓reduceIte, Nat.reduceEqDiff, argT_zero, argT_succ, Option.map_some, reduceCtorEq, if_true, if_false, beq_self_eq_true, bne_self_eq_false, Bool.not_true, Bool.not_false, h8, h10, h11, h12, h13, Try.underlying29, Try.underlying3, sz3, agg3, if_pos, Nat.mul_one, Nat.zero_add, Int.toNat_natCast, intsC_get, List.drop_zero]; try rfl) ?_
              refine opd_prim rfl (by simp (disch := omega) only [evalPrim, ↓ev_tmp, ↓ev_const, ↓put_at, ↓put_none, ↓reduceIte, Nat.reduceEqDiff, argT_zero, argT_succ, h8, h10, h11, h12, h13, Try.underlying29, Try.underlying3, sz3, agg3, if_pos, Nat.mul_one, Nat.zero_add, Int.toNat_natCast, intsC_get, List.drop_zero]; try rfl) ?_
              refine opd_yes 65 rfl rfl (by simp (disch := omega) only [evalPrim, ↓ev_tmp, ↓ev_const, ↓put_at, ↓put_none, ↓reduceIte, Nat.reduceEqDiff, argT_zero, argT_succ, Option.map_some, reduceCtorEq, if_true, if_false, beq_self_eq_true, bne_self_eq_false, Bool.not_true, Bool.not_false, h8, h10, h11, h12, h13, Try.underlying29, Try.underlying3, sz3, agg3, if_pos, Nat.mul_one, Nat.zero_add, Int.toNat_natCast, intsC_get, List.drop_zero]; try rfl) ?_
              refine opd_prim rfl (by simp (disch := omega) only [evalPrim, ↓ev_tmp, ↓ev_const, ↓put_at, ↓put_none, ↓reduceIte, Nat.reduceEqDiff, argT_zero, argT_succ, h8, h10, h11, h12, h13, Try.underlying29, Try.underlying3, sz3, agg3, if_pos, Nat.mul_one, Nat.zero_add, Int.toNat_natCast, intsC_get, List.drop_zero]; try rfl) ?_
              refine opd_yes 65 rfl rfl (by simp (disch := omega) only [evalPrim, ↓ev_tmp, ↓ev_const, ↓put_at, ↓put_none, ↓reduceIte, Nat.reduceEqDiff, argT_zero, argT_succ, Option.map_some, reduceCtorEq, if_true, if_false, beq_self_eq_true, bne_self_eq_false, Bool.not_true, Bool.not_false, h8, h10, h11, h12, h13, Try.underlying29, Try.underlying3, sz3, agg3, if_pos, Nat.mul_one, Nat.zero_add, Int.toNat_natCast, intsC_get, List.drop_zero]; try rfl) ?_
              refine opd_prim rfl (by simp (disch := omega) only [evalPrim, ↓ev_tmp, ↓ev_const, ↓put_at, ↓put_none, ↓reduceIte, Nat.reduceEqDiff, argT_zero, argT_succ, tvIndexAddr, ofConst, ofValue, Option.map_some, reduceCtorEq, if_true, if_false, h8, h10, h11, h12, h13, Try.underlying29, Try.underlying3, sz3, agg3, if_pos, Nat.mul_one, Nat.zero_add, Int.toNat_natCast, intsC_get, List.drop_zero]; try rfl) ?_
              refine opd_yes 65 rfl rfl (by simp (disch := omega) only [evalPrim, ↓ev_tmp, ↓ev_const, ↓put_at, ↓put_none, ↓reduceIte, Nat.reduceEqDiff, argT_zero, argT_succ, Option.map_some, reduceCtorEq, if_true, if_false, beq_self_eq_true, bne_self_eq_false, Bool.not_true, Bool.not_false, h8, h10, h11, h12, h13, Try.underlying29, Try.underlying3, sz3, agg3, if_pos, Nat.mul_one, Nat.zero_add, Int.toNat_natCast, intsC_get, List.drop_zero]; try rfl) ?_
              refine opd_prim rfl (by simp (disch := omega) only [evalPrim, ↓ev_tmp, ↓ev_const, ↓put_at, ↓put_none, ↓reduceIte, Nat.reduceEqDiff, argT_zero, argT_succ, tvLoad, at_set_same, at_pushed, List.length_cons, List.length_nil, Nat.reduceAdd, Nat.reduceLeDiff, Nat.zero_add, Nat.le_refl, List.drop_zero, List.drop_succ_cons, List.take_succ_cons, List.take_zero, List.getElem?_cons_zero, List.getElem?_cons_succ, Bool.false_eq_true, Option.map_some, reduceCtorEq, if_true, if_false, h8, h10, h11, h12, h13, Try.underlying29, Try.underlying3, sz3, agg3, if_pos, Nat.mul_one, Int.toNat_natCast, intsC_get]; try rfl) ?_
              refine opd_yes 65 rfl rfl (by simp (disch := omega) only [evalPrim, ↓ev_tmp, ↓ev_const, ↓put_at, ↓put_none, ↓reduceIte, Nat.reduceEqDiff, argT_zero, argT_succ, Option.map_some, reduceCtorEq, if_true, if_false, beq_self_eq_true, bne_self_eq_false, Bool.not_true, Bool.not_false, h8, h10, h11, h12, h13, Try.underlying29, Try.underlying3, sz3, agg3, if_pos, Nat.mul_one, Nat.zero_add, Int.toNat_natCast, intsC_get, List.drop_zero]; try rfl) ?_
              refine opd_prim rfl (by simp (disch := omega) only [evalPrim, ↓ev_tmp, ↓ev_const, ↓put_at, ↓put_none, ↓reduceIte, Nat.reduceEqDiff, argT_zero, argT_succ, h8, h10, h11, h12, h13, Try.underlying29, Try.underlying3, sz3, agg3, if_pos, Nat.mul_one, Nat.zero_add, Int.toNat_natCast, intsC_get, List.drop_zero]; try rfl) ?_
              refine opd_yes 65 rfl rfl (by simp (disch := omega) only [evalPrim, ↓ev_tmp, ↓ev_const, ↓put_at, ↓put_none, ↓reduceIte, Nat.reduceEqDiff, argT_zero, argT_succ, Option.map_some, reduceCtorEq, if_true, if_false, beq_self_eq_true, bne_self_eq_false, Bool.not_true, Bool.not_false, h8, h10, h11, h12, h13, Try.underlying29, Try.underlying3, sz3, agg3, if_pos, Nat.mul_one, Nat.zero_add, Int.toNat_natCast, intsC_get, List.drop_zero]; try rfl) ?_
              refine opd_prim rfl (by simp (disch := omega) only [evalPrim, ↓ev_tmp, ↓ev_const, ↓put_at, ↓put_none, ↓reduceIte, Nat.reduceEqDiff, argT_zero, argT_succ, h8, h10, h11, h12, h13, Try.underlying29, Try.underlying3, sz3, agg3, if_pos, Nat.mul_one, Nat.zero_add, Int.toNat_natCast, intsC_get, List.drop_zero]; try rfl) ?_
              refine opd_yes 65 rfl rfl (by simp (disch := omega) only [evalPrim, ↓ev_tmp, ↓ev_const, ↓put_at, ↓put_none, ↓reduceIte, Nat.reduceEqDiff, argT_zero, argT_succ, Option.map_some, reduceCtorEq, if_true, if_false, beq_self_eq_true, bne_self_eq_false, Bool.not_true, Bool.not_false, h8, h10, h11, h12, h13, Try.underlying29, Try.underlying3, sz3, agg3, if_pos, Nat.mul_one, Nat.zero_add, Int.toNat_natCast, intsC_get, List.drop_zero]; try rfl) ?_
              refine opd_prim rfl (by simp (disch := omega) only [evalPrim, ↓ev_tmp, ↓ev_const, ↓put_at, ↓put_none, ↓reduceIte, Nat.reduceEqDiff, argT_zero, argT_succ, tvIndexAddr, ofConst, ofValue, Option.map_some, reduceCtorEq, if_true, if_false, h8, h10, h11, h12, h13, Try.underlying29, Try.underlying3, sz3, agg3, if_pos, Nat.mul_one, Nat.zero_add, Int.toNat_natCast, intsC_get, List.drop_zero]; try rfl) ?_
              refine opd_yes 65 rfl rfl (by simp (disch := omega) only [evalPrim, ↓ev_tmp, ↓ev_const, ↓put_at, ↓put_none, ↓reduceIte, Nat.reduceEqDiff, argT_zero, argT_succ, Option.map_some, reduceCtorEq, if_true, if_false, beq_self_eq_true, bne_self_eq_false, Bool.not_true, Bool.not_false, h8, h10, h11, h12, h13, Try.underlying29, Try.underlying3, sz3, agg3, if_pos, Nat.mul_one, Nat.zero_add, Int.toNat_natCast, intsC_get, List.drop_zero]; try rfl) ?_
              refine opd_prim rfl (by simp (disch := omega) only [evalPrim, ↓ev_tmp, ↓ev_const, ↓put_at, ↓put_none, ↓reduceIte, Nat.reduceEqDiff, argT_zero, argT_succ, tvLoad, at_set_same, at_pushed, List.length_cons, List.length_nil, Nat.reduceAdd, Nat.reduceLeDiff, Nat.zero_add, Nat.le_refl, List.drop_zero, List.drop_succ_cons, List.take_succ_cons, List.take_zero, List.getElem?_cons_zero, List.getElem?_cons_succ, Bool.false_eq_true, Option.map_some, reduceCtorEq, if_true, if_false, h8, h10, h11, h12, h13, Try.underlying29, Try.underlying3, sz3, agg3, if_pos, Nat.mul_one, Int.toNat_natCast, intsC_get]; try rfl) ?_
              refine opd_yes 65 rfl rfl (by simp (disch := omega) only [evalPrim, ↓ev_tmp, ↓ev_const, ↓put_at, ↓put_none, ↓reduceIte, Nat.reduceEqDiff, argT_zero, argT_succ, Option.map_some, reduceCtorEq, if_true, if_false, beq_self_eq_true, bne_self_eq_false, Bool.not_true, Bool.not_false, h8, h10, h11, h12, h13, Try.underlying29, Try.underlying3, sz3, agg3, if_pos, Nat.mul_one, Nat.zero_add, Int.toNat_natCast, intsC_get, List.drop_zero]; try rfl) ?_
              refine opd_prim rfl (by simp (disch := omega) only [evalPrim, ↓ev_tmp, ↓ev_const, ↓put_at, ↓put_none, ↓reduceIte, Nat.reduceEqDiff, argT_zero, argT_succ, tvBinT, tvBinT.nil2, tvBinT.ptr2, tvBin, intBin, ofConst, ofValue, Option.map_some, reduceCtorEq, if_true, if_false, h8, h10, h11, h12, h13, Try.underlying29, Try.underlying3, sz3, agg3, if_pos, Nat.mul_one, Nat.zero_add, Int.toNat_natCast, intsC_get, List.drop_zero]; try rfl) ?_
              refine opd_prim rfl (by simp (disch := omega) only [evalPrim, ↓ev_tmp, ↓ev_const, ↓put_at, ↓put_none, ↓reduceIte, Nat.reduceEqDiff, argT_zero, argT_succ, cond_true, cond_false, ofConst, ofValue, h8, h10, h11, h12, h13, Try.underlying29, Try.underlying3, sz3, agg3, if_pos, Nat.mul_one, Nat.zero_add, Int.toNat_natCast, intsC_get, List.drop_zero]; try rfl) ?_
              refine opd_prim rfl (by simp (disch := omega) only [evalPrim, ↓ev_tmp, ↓ev_const, ↓put_at, ↓put_none, ↓reduceIte, Nat.reduceEqDiff, argT_zero, argT_succ, ofConst, ofValue, h8, h10, h11, h12, h13, Try.underlying29, Try.underlying3, sz3, agg3, if_pos, Nat.mul_one, Nat.zero_add, Int.toNat_natCast, intsC_get, List.drop_zero]; try rfl) ?_
              refine opd_nil ?_
              dsimp only [Then, InBlock, ↓reduceIte]
              refine awp_reg _ (by kernel_rfl) rfl ?_
              refine ops_prim rfl (by simp (disch := omega) only [evalPrim, ↓ev_tmp, ↓ev_const, ↓put_at, ↓put_none, ↓reduceIte, Nat.reduceEqDiff, argT_zero, argT_succ, h13, w1]; try rfl) ?_
              refine ops_prim rfl (by simp (disch := omega) only [evalPrim, ↓ev_tmp, ↓ev_const, ↓put_at, ↓put_none, ↓reduceIte, Nat.reduceEqDiff, argT_zero, argT_succ, tvBinT, tvBinT.nil2, tvBinT.ptr2, tvBin, intBin, ofConst, ofValue, Option.map_some, reduceCtorEq, if_true, if_false, h13, w1]; try rfl) ?_
              refine ops_prim rfl (by simp (disch := omega) only [evalPrim, ↓ev_tmp, ↓ev_const, ↓put_at, ↓put_none, ↓reduceIte, Nat.reduceEqDiff, argT_zero, argT_succ, ofConst, ofValue, h13, w1]; try rfl) ?_
              refine ops_nil ?_
              dsimp only [Then, InBlock, ↓reduceIte]
              refine ⟨K - (j + 1), by omega, j + 1, (L.getD j 0 == s.getD i 0), rfl, by omega, h2, h8, h10, h11, rfl, rfl, ?_⟩
              rw [beq_iff_eq]
              refine ⟨fun e => ⟨j, by omega, e⟩, fun ⟨a, ha, e⟩ => ?_⟩
              by_cases ea : a = j
              · subst ea; exact e
              · have := hf.2 ⟨a, by omega, e⟩
                simp at this
          · simp only [decide_eq_false_iff_not] at hc
            have hjK : j = K := by omega
            subst hjK
            have hft : f = true := by
              obtain ⟨a, ha, e⟩ := hmem i (by omega)
              exact hf.2 ⟨a, ha, e⟩
            subst hft
            have w2 : IntKind.wrap .i64 ((i : Int) + 1) = ((i + 1 : Nat) : Int) := by rw [wr64 (by omega)]; omega
            refine awp_exit ?_
            dsimp only [Then, InBlock]
            refine Eq.mpr (if_pos rfl) ?_
            refine awp_seq ?_
            by_cases hi0 : i = 0
            · subst hi0
              refine awp_regD _ (by kernel_rfl) (by kernel_rfl) (by kernel_rfl) rfl ?_
              refine opd_prim rfl (by simp (disch := omega) only [evalPrim, ↓ev_tmp, ↓ev_const, ↓put_at, ↓put_none, ↓reduceIte, Nat.reduceEqDiff, argT_zero, argT_succ, h11, h12, decide_false, Int.natCast_zero, gt_iff_lt, Int.lt_irrefl]; try rfl) ?_
              refine opd_prim rfl (by simp (disch := omega) only [evalPrim, ↓ev_tmp, ↓ev_const, ↓put_at, ↓put_none, ↓reduceIte, Nat.reduceEqDiff, argT_zero, argT_succ, tvUn, ofConst, ofValue, Option.map_some, reduceCtorEq, if_true, if_false, h11, h12, decide_false, Int.natCast_zero, gt_iff_lt, Int.lt_irrefl]; try rfl) ?_
              refine opd_prim rfl (by simp (disch := omega) only [evalPrim, ↓ev_tmp, ↓ev_const, ↓put_at, ↓put_none, ↓reduceIte, Nat.reduceEqDiff, argT_zero, argT_succ, h11, h12, decide_false, Int.natCast_zero, gt_iff_lt, Int.lt_irrefl]; try rfl) ?_
              refine opd_yes 78 rfl rfl (by simp (disch := omega) only [evalPrim, ↓ev_tmp, ↓ev_const, ↓put_at, ↓put_none, ↓reduceIte, Nat.reduceEqDiff, argT_zero, argT_succ, Option.map_some, reduceCtorEq, if_true, if_false, beq_self_eq_true, bne_self_eq_false, Bool.not_true, Bool.not_false, h11, h12, decide_false, Int.natCast_zero, gt_iff_lt, Int.lt_irrefl]; try rfl) ?_
              refine opd_prim rfl (by simp (disch := omega) only [evalPrim, ↓ev_tmp, ↓ev_const, ↓put_at, ↓put_none, ↓reduceIte, Nat.reduceEqDiff, argT_zero, argT_succ, h11, h12, decide_false, Int.natCast_zero, gt_iff_lt, Int.lt_irrefl]; try rfl) ?_
              refine opd_yes 78 rfl rfl (by simp (disch := omega) only [evalPrim, ↓ev_tmp, ↓ev_const, ↓put_at, ↓put_none, ↓reduceIte, Nat.reduceEqDiff, argT_zero, argT_succ, Option.map_some, reduceCtorEq, if_true, if_false, beq_self_eq_true, bne_self_eq_false, Bool.not_true, Bool.not_false, h11, h12, decide_false, Int.natCast_zero, gt_iff_lt, Int.lt_irrefl]; try rfl) ?_
              refine opd_prim rfl (by simp (disch := omega) only [evalPrim, ↓ev_tmp, ↓ev_const, ↓put_at, ↓put_none, ↓reduceIte, Nat.reduceEqDiff, argT_zero, argT_succ, tvBinT, tvBinT.nil2, tvBinT.ptr2, tvBin, intBin, ofConst, ofValue, Option.map_some, reduceCtorEq, if_true, if_false, h11, h12, decide_false, Int.natCast_zero, gt_iff_lt, Int.lt_irrefl]; try rfl) ?_
              refine opd_yes 78 rfl rfl (by simp (disch := omega) only [evalPrim, ↓ev_tmp, ↓ev_const, ↓put_at, ↓put_none, ↓reduceIte, Nat.reduceEqDiff, argT_zero, argT_succ, Option.map_some, reduceCtorEq, if_true, if_false, beq_self_eq_true, bne_self_eq_false, Bool.not_true, Bool.not_false, h11, h12, decide_false, Int.natCast_zero, gt_iff_lt, Int.lt_irrefl]; try rfl) ?_
              refine opd_prim rfl (by simp (disch := omega) only [evalPrim, ↓ev_tmp, ↓ev_const, ↓put_at, ↓put_none, ↓reduceIte, Nat.reduceEqDiff, argT_zero, argT_succ, h11, h12, decide_false, Int.natCast_zero, gt_iff_lt, Int.lt_irrefl]; try rfl) ?_
              iterate 10 refine opd_not 81 rfl rfl (by simp (disch := omega) only [evalPrim, ↓ev_tmp, ↓ev_const, ↓put_at, ↓put_none, ↓reduceIte, Nat.reduceEqDiff, argT_zero, argT_succ, Option.map_some, reduceCtorEq, if_true, if_false, beq_self_eq_true, bne_self_eq_false, Bool.not_true, Bool.not_false, h11, h12, decide_false, Int.natCast_zero, gt_iff_lt, Int.lt_irrefl]; try rfl) ?_
              refine opd_yes 78 rfl rfl (by simp (disch := omega) only [evalPrim, ↓ev_tmp, ↓ev_const, ↓put_at, ↓put_none, ↓reduceIte, Nat.reduceEqDiff, argT_zero, argT_succ, Option.map_some, reduceCtorEq, if_true, if_false, beq_self_eq_true, bne_self_eq_false, Bool.not_true, Bool.not_false, h11, h12, decide_false, Int.natCast_zero, gt_iff_lt, Int.lt_irrefl]; try rfl) ?_
              iterate 2 refine opd_prim rfl (by simp (disch := omega) only [evalPrim, ↓ev_tmp, ↓ev_const, ↓put_at, ↓put_none, ↓reduceIte, Nat.reduceEqDiff, argT_zero, argT_succ, cond_true, cond_false, ofConst, ofValue, h11, h12, decide_false, Int.natCast_zero, gt_iff_lt, Int.lt_irrefl]; try rfl) ?_
              refine opd_nil ?_
              dsimp only [Then, InBlock, ↓reduceIte]
              refine awp_ifc (by simp (disch := omega) only [evalPrim, ↓ev_tmp, ↓ev_const, ↓put_at, ↓put_none, ↓reduceIte, Nat.reduceEqDiff, argT_zero, argT_succ, Option.map_some, reduceCtorEq, if_true, if_false]; try rfl) (fun hc => ?_) (fun hc => ?_)
              · simp at hc
              · refine awp_skip ?_
                dsimp only [Then, InBlock]
                refine awp_reg _ (by kernel_rfl) rfl ?_
                refine ops_prim rfl (by simp (disch := omega) only [evalPrim, ↓ev_tmp, ↓ev_const, ↓put_at, ↓put_none, ↓reduceIte, Nat.reduceEqDiff, argT_zero, argT_succ, h11, w2]; try rfl) ?_
                refine ops_prim rfl (by simp (disch := omega) only [evalPrim, ↓ev_tmp, ↓ev_const, ↓put_at, ↓put_none, ↓reduceIte, Nat.reduceEqDiff, argT_zero, argT_succ, tvBinT, tvBinT.nil2, tvBinT.ptr2, tvBin, intBin, ofConst, ofValue, Option.map_some, reduceCtorEq, if_true, if_false, h11, w2]; try rfl) ?_
                refine ops_prim rfl (by simp (disch := omega) only [evalPrim, ↓ev_tmp, ↓ev_const, ↓put_at, ↓put_none, ↓reduceIte, Nat.reduceEqDiff, argT_zero, argT_succ, ofConst, ofValue, h11, w2]; try rfl) ?_
                refine ops_nil ?_
                dsimp only [Then, InBlock, ↓reduceIte]
                exact ⟨j - 1, by omega, 1, rfl, by omega, h2, h8, h10, rfl⟩
            · obtain ⟨m, rfl⟩ : ∃ m, i = m + 1 := ⟨i - 1, by omega⟩
              have g1 : decide (((m + 1 : Nat) : Int) > 0) = true := decide_eq_true (by omega)
              have w3 : IntKind.wrap .i64 (((m + 1 : Nat) : Int) - 1) = (m : Int) := by rw [wr64 (by omega)]; omega
              have lt := hinc m (by omega)
              have g2 : decide (s.getD m 0 ≥ s.getD (m + 1) 0) = false := decide_eq_false (by omega)
              refine awp_regD _ (by kernel_rfl) (by kernel_rfl) (by kernel_rfl) rfl ?_
              refine opd_prim rfl (by simp (disch := omega) only [evalPrim, ↓ev_tmp, ↓ev_const, ↓put_at, ↓put_none, ↓reduceIte, Nat.reduceEqDiff, argT_zero, argT_succ, h8, h11, h12, g1, g2, w3, Try.underlying29, Try.underlying3, sz3, agg3, if_pos, Nat.mul_one, Nat.zero_add, Int.toNat_natCast, intsC_get, List.drop_zero]; try rfl) ?_
              refine opd_prim rfl (by simp (disch := omega) only [evalPrim, ↓ev_tmp, ↓ev_const, ↓put_at, ↓put_none, ↓reduceIte, Nat.reduceEqDiff, argT_zero, argT_succ, tvUn, ofConst, ofValue, Option.map_some, reduceCtorEq, if_true, if_false, h8, h11, h12, g1, g2, w3, Try.underlying29, Try.underlying3, sz3, agg3, if_pos, Nat.mul_one, Nat.zero_add, Int.toNat_natCast, intsC_get, List.drop_zero]; try rfl) ?_
              refine opd_prim rfl (by simp (disch := omega) only [evalPrim, ↓ev_tmp, ↓ev_const, ↓put_at, ↓put_none, ↓reduceIte, Nat.reduceEqDiff, argT_zero, argT_succ, h8, h11, h12, g1, g2, w3, Try.underlying29, Try.underlying3, sz3, agg3, if_pos, Nat.mul_one, Nat.zero_add, Int.toNat_natCast, intsC_get, List.drop_zero]; try rfl) ?_
              refine opd_yes 78 rfl rfl (by simp (disch := omega) only [evalPrim, ↓ev_tmp, ↓ev_const, ↓put_at, ↓put_none, ↓reduceIte, Nat.reduceEqDiff, argT_zero, argT_succ, Option.map_some, reduceCtorEq, if_true, if_false, beq_self_eq_true, bne_self_eq_false, Bool.not_true, Bool.not_false, h8, h11, h12, g1, g2, w3, Try.underlying29, Try.underlying3, sz3, agg3, if_pos, Nat.mul_one, Nat.zero_add, Int.toNat_natCast, intsC_get, List.drop_zero]; try rfl) ?_
              refine opd_prim rfl (by simp (disch := omega) only [evalPrim, ↓ev_tmp, ↓ev_const, ↓put_at, ↓put_none, ↓reduceIte, Nat.reduceEqDiff, argT_zero, argT_succ, h8, h11, h12, g1, g2, w3, Try.underlying29, Try.underlying3, sz3, agg3, if_pos, Nat.mul_one, Nat.zero_add, Int.toNat_natCast, intsC_get, List.drop_zero]; try rfl) ?_
              refine opd_yes 78 rfl rfl (by simp (disch := omega) only [evalPrim, ↓ev_tmp, ↓ev_const, ↓put_at, ↓put_none, ↓reduceIte, Nat.reduceEqDiff, argT_zero, argT_succ, Option.map_some, reduceCtorEq, if_true, if_false, beq_self_eq_true, bne_self_eq_false, Bool.not_true, Bool.not_false, h8, h11, h12, g1, g2, w3, Try.underlying29, Try.underlying3, sz3, agg3, if_pos, Nat.mul_one, Nat.zero_add, Int.toNat_natCast, intsC_get, List.drop_zero]; try rfl) ?_
              refine opd_prim rfl (by simp (disch := omega) only [evalPrim, ↓ev_tmp, ↓ev_const, ↓put_at, ↓put_none, ↓reduceIte, Nat.reduceEqDiff, argT_zero, argT_succ, tvBinT, tvBinT.nil2, tvBinT.ptr2, tvBin, intBin, ofConst, ofValue, Option.map_some, reduceCtorEq, if_true, if_false, h8, h11, h12, g1, g2, w3, Try.underlying29, Try.underlying3, sz3, agg3, if_pos, Nat.mul_one, Nat.zero_add, Int.toNat_natCast, intsC_get, List.drop_zero]; try rfl) ?_
              refine opd_yes 78 rfl rfl (by simp (disch := omega) only [evalPrim, ↓ev_tmp, ↓ev_const, ↓put_at, ↓put_none, ↓reduceIte, Nat.reduceEqDiff, argT_zero, argT_succ, Option.map_some, reduceCtorEq, if_true, if_false, beq_self_eq_true, bne_self_eq_false, Bool.not_true, Bool.not_false, h8, h11, h12, g1, g2, w3, Try.underlying29, Try.underlying3, sz3, agg3, if_pos, Nat.mul_one, Nat.zero_add, Int.toNat_natCast, intsC_get, List.drop_zero]; try rfl) ?_
              refine opd_prim rfl (by simp (disch := omega) only [evalPrim, ↓ev_tmp, ↓ev_const, ↓put_at, ↓put_none, ↓reduceIte, Nat.reduceEqDiff, argT_zero, argT_succ, h8, h11, h12, g1, g2, w3, Try.underlying29, Try.underlying3, sz3, agg3, if_pos, Nat.mul_one, Nat.zero_add, Int.toNat_natCast, intsC_get, List.drop_zero]; try rfl) ?_
              refine opd_yes 81 rfl rfl (by simp (disch := omega) only [evalPrim, ↓ev_tmp, ↓ev_const, ↓put_at, ↓put_none, ↓reduceIte, Nat.reduceEqDiff, argT_zero, argT_succ, Option.map_some, reduceCtorEq, if_true, if_false, beq_self_eq_true, bne_self_eq_false, Bool.not_true, Bool.not_false, h8, h11, h12, g1, g2, w3, Try.underlying29, Try.underlying3, sz3, agg3, if_pos, Nat.mul_one, Nat.zero_add, Int.toNat_natCast, intsC_get, List.drop_zero]; try rfl) ?_
              refine opd_prim rfl (by simp (disch := omega) only [evalPrim, ↓ev_tmp, ↓ev_const, ↓put_at, ↓put_none, ↓reduceIte, Nat.reduceEqDiff, argT_zero, argT_succ, h8, h11, h12, g1, g2, w3, Try.underlying29, Try.underlying3, sz3, agg3, if_pos, Nat.mul_one, Nat.zero_add, Int.toNat_natCast, intsC_get, List.drop_zero]; try rfl) ?_
              refine opd_yes 81 rfl rfl (by simp (disch := omega) only [evalPrim, ↓ev_tmp, ↓ev_const, ↓put_at, ↓put_none, ↓reduceIte, Nat.reduceEqDiff, argT_zero, argT_succ, Option.map_some, reduceCtorEq, if_true, if_false, beq_self_eq_true, bne_self_eq_false, Bool.not_true, Bool.not_false, h8, h11, h12, g1, g2, w3, Try.underlying29, Try.underlying3, sz3, agg3, if_pos, Nat.mul_one, Nat.zero_add, Int.toNat_natCast, intsC_get, List.drop_zero]; try rfl) ?_
              refine opd_prim rfl (by simp (disch := omega) only [evalPrim, ↓ev_tmp, ↓ev_const, ↓put_at, ↓put_none, ↓reduceIte, Nat.reduceEqDiff, argT_zero, argT_succ, h8, h11, h12, g1, g2, w3, Try.underlying29, Try.underlying3, sz3, agg3, if_pos, Nat.mul_one, Nat.zero_add, Int.toNat_natCast, intsC_get, List.drop_zero]; try rfl) ?_
              refine opd_yes 81 rfl rfl (by simp (disch := omega) only [evalPrim, ↓ev_tmp, ↓ev_const, ↓put_at, ↓put_none, ↓reduceIte, Nat.reduceEqDiff, argT_zero, argT_succ, Option.map_some, reduceCtorEq, if_true, if_false, beq_self_eq_true, bne_self_eq_false, Bool.not_true, Bool.not_false, h8, h11, h12, g1, g2, w3, Try.underlying29, Try.underlying3, sz3, agg3, if_pos, Nat.mul_one, Nat.zero_add, Int.toNat_natCast, intsC_get, List.drop_zero]; try rfl) ?_
              refine opd_prim rfl (by simp (disch := omega) only [evalPrim, ↓ev_tmp, ↓ev_const, ↓put_at, ↓put_none, ↓reduceIte, Nat.reduceEqDiff, argT_zero, argT_succ, tvBinT, tvBinT.nil2, tvBinT.ptr2, tvBin, intBin, ofConst, ofValue, Option.map_some, reduceCtorEq, if_true, if_false, h8, h11, h12, g1, g2, w3, Try.underlying29, Try.underlying3, sz3, agg3, if_pos, Nat.mul_one, Nat.zero_add, Int.toNat_natCast, intsC_get, List.drop_zero]; try rfl) ?_
              refine opd_yes 81 rfl rfl (by simp (disch := omega) only [evalPrim, ↓ev_tmp, ↓ev_const, ↓put_at, ↓put_none, ↓reduceIte, Nat.reduceEqDiff, argT_zero, argT_succ, Option.map_some, reduceCtorEq, if_true, if_false, beq_self_eq_true, bne_self_eq_false, Bool.not_true, Bool.not_false, h8, h11, h12, g1, g2, w3, Try.underlying29, Try.underlying3, sz3, agg3, if_pos, Nat.mul_one, Nat.zero_add, Int.toNat_natCast, intsC_get, List.drop_zero]; try rfl) ?_
              refine opd_prim rfl (by simp (disch := omega) only [evalPrim, ↓ev_tmp, ↓ev_const, ↓put_at, ↓put_none, ↓reduceIte, Nat.reduceEqDiff, argT_zero, argT_succ, tvIndexAddr, ofConst, ofValue, Option.map_some, reduceCtorEq, if_true, if_false, h8, h11, h12, g1, g2, w3, Try.underlying29, Try.underlying3, sz3, agg3, if_pos, Nat.mul_one, Nat.zero_add, Int.toNat_natCast, intsC_get, List.drop_zero]; try rfl) ?_
              refine opd_yes 81 rfl rfl (by simp (disch := omega) only [evalPrim, ↓ev_tmp, ↓ev_const, ↓put_at, ↓put_none, ↓reduceIte, Nat.reduceEqDiff, argT_zero, argT_succ, Option.map_some, reduceCtorEq, if_true, if_false, beq_self_eq_true, bne_self_eq_false, Bool.not_true, Bool.not_false, h8, h11, h12, g1, g2, w3, Try.underlying29, Try.underlying3, sz3, agg3, if_pos, Nat.mul_one, Nat.zero_add, Int.toNat_natCast, intsC_get, List.drop_zero]; try rfl) ?_
              refine opd_prim rfl (by simp (disch := omega) only [evalPrim, ↓ev_tmp, ↓ev_const, ↓put_at, ↓put_none, ↓reduceIte, Nat.reduceEqDiff, argT_zero, argT_succ, tvLoad, at_set_same, at_pushed, List.length_cons, List.length_nil, Nat.reduceAdd, Nat.reduceLeDiff, Nat.zero_add, Nat.le_refl, List.drop_zero, List.drop_succ_cons, List.take_succ_cons, List.take_zero, List.getElem?_cons_zero, List.getElem?_cons_succ, Bool.false_eq_true, Option.map_some, reduceCtorEq, if_true, if_false, h8, h11, h12, g1, g2, w3, Try.underlying29, Try.underlying3, sz3, agg3, if_pos, Nat.mul_one, Int.toNat_natCast, intsC_get]; try rfl) ?_
              refine opd_yes 81 rfl rfl (by simp (disch := omega) only [evalPrim, ↓ev_tmp, ↓ev_const, ↓put_at, ↓put_none, ↓reduceIte, Nat.reduceEqDiff, argT_zero, argT_succ, Option.map_some, reduceCtorEq, if_true, if_false, beq_self_eq_true, bne_self_eq_false, Bool.not_true, Bool.not_false, h8, h11, h12, g1, g2, w3, Try.underlying29, Try.underlying3, sz3, agg3, if_pos, Nat.mul_one, Nat.zero_add, Int.toNat_natCast, intsC_get, List.drop_zero]; try rfl) ?_
              refine opd_prim rfl (by simp (disch := omega) only [evalPrim, ↓ev_tmp, ↓ev_const, ↓put_at, ↓put_none, ↓reduceIte, Nat.reduceEqDiff, argT_zero, argT_succ, h8, h11, h12, g1, g2, w3, Try.underlying29, Try.underlying3, sz3, agg3, if_pos, Nat.mul_one, Nat.zero_add, Int.toNat_natCast, intsC_get, List.drop_zero]; try rfl) ?_
              refine opd_yes 81 rfl rfl (by simp (disch := omega) only [evalPrim, ↓ev_tmp, ↓ev_const, ↓put_at, ↓put_none, ↓reduceIte, Nat.reduceEqDiff, argT_zero, argT_succ, Option.map_some, reduceCtorEq, if_true, if_false, beq_self_eq_true, bne_self_eq_false, Bool.not_true, Bool.not_false, h8, h11, h12, g1, g2, w3, Try.underlying29, Try.underlying3, sz3, agg3, if_pos, Nat.mul_one, Nat.zero_add, Int.toNat_natCast, intsC_get, List.drop_zero]; try rfl) ?_
              refine opd_prim rfl (by simp (disch := omega) only [evalPrim, ↓ev_tmp, ↓ev_const, ↓put_at, ↓put_none, ↓reduceIte, Nat.reduceEqDiff, argT_zero, argT_succ, h8, h11, h12, g1, g2, w3, Try.underlying29, Try.underlying3, sz3, agg3, if_pos, Nat.mul_one, Nat.zero_add, Int.toNat_natCast, intsC_get, List.drop_zero]; try rfl) ?_
              refine opd_yes 81 rfl rfl (by simp (disch := omega) only [evalPrim, ↓ev_tmp, ↓ev_const, ↓put_at, ↓put_none, ↓reduceIte, Nat.reduceEqDiff, argT_zero, argT_succ, Option.map_some, reduceCtorEq, if_true, if_false, beq_self_eq_true, bne_self_eq_false, Bool.not_true, Bool.not_false, h8, h11, h12, g1, g2, w3, Try.underlying29, Try.underlying3, sz3, agg3, if_pos, Nat.mul_one, Nat.zero_add, Int.toNat_natCast, intsC_get, List.drop_zero]; try rfl) ?_
              refine opd_prim rfl (by simp (disch := omega) only [evalPrim, ↓ev_tmp, ↓ev_const, ↓put_at, ↓put_none, ↓reduceIte, Nat.reduceEqDiff, argT_zero, argT_succ, tvIndexAddr, ofConst, ofValue, Option.map_some, reduceCtorEq, if_true, if_false, h8, h11, h12, g1, g2, w3, Try.underlying29, Try.underlying3, sz3, agg3, if_pos, Nat.mul_one, Nat.zero_add, Int.toNat_natCast, intsC_get, List.drop_zero]; try rfl) ?_
              refine opd_yes 81 rfl rfl (by simp (disch := omega) only [evalPrim, ↓ev_tmp, ↓ev_const, ↓put_at, ↓put_none, ↓reduceIte, Nat.reduceEqDiff, argT_zero, argT_succ, Option.map_some, reduceCtorEq, if_true, if_false, beq_self_eq_true, bne_self_eq_false, Bool.not_true, Bool.not_false, h8, h11, h12, g1, g2, w3, Try.underlying29, Try.underlying3, sz3, agg3, if_pos, Nat.mul_one, Nat.zero_add, Int.toNat_natCast, intsC_get, List.drop_zero]; try rfl) ?_
              refine opd_prim rfl (by simp (disch := omega) only [evalPrim, ↓ev_tmp, ↓ev_const, ↓put_at, ↓put_none, ↓reduceIte, Nat.reduceEqDiff, argT_zero, argT_succ, tvLoad, at_set_same, at_pushed, List.length_cons, List.length_nil, Nat.reduceAdd, Nat.reduceLeDiff, Nat.zero_add, Nat.le_refl, List.drop_zero, List.drop_succ_cons, List.take_succ_cons, List.take_zero, List.getElem?_cons_zero, List.getElem?_cons_succ, Bool.false_eq_true, Option.map_some, reduceCtorEq, if_true, if_false, h8, h11, h12, g1, g2, w3, Try.underlying29, Try.underlying3, sz3, agg3, if_pos, Nat.mul_one, Int.toNat_natCast, intsC_get]; try rfl) ?_
              refine opd_yes 81 rfl rfl (by simp (disch := omega) only [evalPrim, ↓ev_tmp, ↓ev_const, ↓put_at, ↓put_none, ↓reduceIte, Nat.reduceEqDiff, argT_zero, argT_succ, Option.map_some, reduceCtorEq, if_true, if_false, beq_self_eq_true, bne_self_eq_false, Bool.not_true, Bool.not_false, h8, h11, h12, g1, g2, w3, Try.underlying29, Try.underlying3, sz3, agg3, if_pos, Nat.mul_one, Nat.zero_add, Int.toNat_natCast, intsC_get, List.drop_zero]; try rfl) ?_
              refine opd_prim rfl (by simp (disch := omega) only [evalPrim, ↓ev_tmp, ↓ev_const, ↓put_at, ↓put_none, ↓reduceIte, Nat.reduceEqDiff, argT_zero, argT_succ, tvBinT, tvBinT.nil2, tvBinT.ptr2, tvBin, intBin, ofConst, ofValue, Option.map_some, reduceCtorEq, if_true, if_false, h8, h11, h12, g1, g2, w3, Try.underlying29, Try.underlying3, sz3, agg3, if_pos, Nat.mul_one, Nat.zero_add, Int.toNat_natCast, intsC_get, List.drop_zero]; try rfl) ?_
              refine opd_yes 78 rfl rfl (by simp (disch := omega) only [evalPrim, ↓ev_tmp, ↓ev_const, ↓put_at, ↓put_none, ↓reduceIte, Nat.reduceEqDiff, argT_zero, argT_succ, Option.map_some, reduceCtorEq, if_true, if_false, beq_self_eq_true, bne_self_eq_false, Bool.not_true, Bool.not_false, h8, h11, h12, g1, g2, w3, Try.underlying29, Try.underlying3, sz3, agg3, if_pos, Nat.mul_one, Nat.zero_add, Int.toNat_natCast, intsC_get, List.drop_zero]; try rfl) ?_
              iterate 2 refine opd_prim rfl (by simp (disch := omega) only [evalPrim, ↓ev_tmp, ↓ev_const, ↓put_at, ↓put_none, ↓reduceIte, Nat.reduceEqDiff, argT_zero, argT_succ, cond_true, cond_false, ofConst, ofValue, h8, h11, h12, g1, g2, w3, Try.underlying29, Try.underlying3, sz3, agg3, if_pos, Nat.mul_one, Nat.zero_add, Int.toNat_natCast, intsC_get, List.drop_zero]; try rfl) ?_
              refine opd_nil ?_
              dsimp only [Then, InBlock, ↓reduceIte]
              refine awp_ifc (by simp (disch := omega) only [evalPrim, ↓ev_tmp, ↓ev_const, ↓put_at, ↓put_none, ↓reduceIte, Nat.reduceEqDiff, argT_zero, argT_succ, Option.map_some, reduceCtorEq, if_true, if_false]; try rfl) (fun hc => ?_) (fun hc => ?_)
              · simp at hc
              · refine awp_skip ?_
                dsimp only [Then, InBlock]
                refine awp_reg _ (by kernel_rfl) rfl ?_
                refine ops_prim rfl (by simp (disch := omega) only [evalPrim, ↓ev_tmp, ↓ev_const, ↓put_at, ↓put_none, ↓reduceIte, Nat.reduceEqDiff, argT_zero, argT_succ, h11, w2]; try rfl) ?_
                refine ops_prim rfl (by simp (disch := omega) only [evalPrim, ↓ev_tmp, ↓ev_const, ↓put_at, ↓put_none, ↓reduceIte, Nat.reduceEqDiff, argT_zero, argT_succ, tvBinT, tvBinT.nil2, tvBinT.ptr2, tvBin, intBin, ofConst, ofValue, Option.map_some, reduceCtorEq, if_true, if_false, h11, w2]; try rfl) ?_
                refine ops_prim rfl (by simp (disch := omega) only [evalPrim, ↓ev_tmp, ↓ev_const, ↓put_at, ↓put_none, ↓reduceIte, Nat.reduceEqDiff, argT_zero, argT_succ, ofConst, ofValue, h11, w2]; try rfl) ?_
                refine ops_nil ?_
                dsimp only [Then, InBlock, ↓reduceIte]
                exact ⟨j - (m + 1 + 1), by omega, m + 1 + 1, rfl, by omega, h2, h8, h10, rfl⟩
        · refine awp_exit ?_
          dsimp only [Then, InBlock]
          refine Eq.mpr (if_pos rfl) ?_
          refine awp_seq ?_
          refine awp_reg _ (by kernel_rfl) rfl ?_
          refine ops_call rfl rfl (by simp (disch := omega) only [callOf, List.nil_append, List.append_nil, List.cons_append, List.map_cons, List.map_nil, ofConst, ofValue, evalPrim, ↓ev_tmp, ↓ev_const, ↓put_at, ↓put_none, ↓reduceIte, Nat.reduceEqDiff, argT_zero, argT_succ]; rfl) (by kernel_rfl) (by kernel_rfl) (awake_ok) ?_
          refine ops_prim rfl (by simp (disch := omega) only [evalPrim, ↓ev_tmp, ↓ev_const, ↓put_at, ↓put_none, ↓reduceIte, Nat.reduceEqDiff, argT_zero, argT_succ, ofConst, ofValue]; try rfl) ?_
          refine ops_nil ?_
          dsimp only [Then, InBlock, ↓reduceIte]
          refine awp_ret ?_
          exact ret_ok (vs := [.c (.bool true)]) rfl rfl
end Go.Sim
