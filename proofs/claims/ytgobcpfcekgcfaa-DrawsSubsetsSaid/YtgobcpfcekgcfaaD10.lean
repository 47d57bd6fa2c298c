/- A part of the proof: the walks of this law's functions. -/
import Derived.Test.YtgobcpfcekgcfaaD9
namespace Go.Sim
open Go Go.Proofs
set_option maxRecDepth 4000
set_option autoImplicit false
set_option linter.unusedSimpArgs false
set_option linter.unusedVariables false
theorem sz4 : szOf Try.prog 4 = some 1 := by kernel_rfl
theorem by4 : bytesOf Try.prog 4 = some 1 := by kernel_rfl
theorem zero4 : zeroCs Try.prog 4 = some [.bool false] := by kernel_rfl
theorem agg4 : aggT Try.prog 4 = false := by kernel_rfl
theorem drawsPermutes_ok (d n : Int) : CCall Try.prog 9 [.c (.int .u64 d), .c (.int .i64 n)] (.c (.bool true)) := by
  refine ccall_intro Try.func9 Try.ntmps9 rfl (Nat.le_of_ble_eq_true rfl) (by simp [Closed.c]) ?_
  refine awp_seq ?_
  refine awp_reg _ (by kernel_rfl) rfl ?_
  refine ops_prim rfl (by simp (disch := omega) only [evalPrim, ↓ev_tmp, ↓ev_const, ↓put_at, ↓put_none, ↓reduceIte, Nat.reduceEqDiff, argT_zero, argT_succ, ofConst, ofValue]; try rfl) ?_
  refine ops_nil ?_
  dsimp only [Then, InBlock, ↓reduceIte]
  refine awp_seq (awp_seq ?_)
  refine awp_cut (fun T S => T 0 = .c (.int .u64 d) ∧ T 1 = .c (.int .i64 n) ∧ S = Store.empty ∧ T 14 = .c (.bool (decide (n < 0 ∨ n > 1000)))) ?_ ?_
  · by_cases h1 : n < 0
    · have e1 : decide (n < 0) = true := decide_eq_true h1
      have e : decide (n < 0 ∨ n > 1000) = true := decide_eq_true (.inl h1)
      refine awp_reg _ (by kernel_rfl) rfl ?_
      refine ops_prim rfl (by simp (disch := omega) only [evalPrim, ↓ev_tmp, ↓ev_const, ↓put_at, ↓put_none, ↓reduceIte, Nat.reduceEqDiff, argT_zero, argT_succ, e1]; try rfl) ?_
      refine ops_prim rfl (by simp (disch := omega) only [evalPrim, ↓ev_tmp, ↓ev_const, ↓put_at, ↓put_none, ↓reduceIte, Nat.reduceEqDiff, argT_zero, argT_succ, tvBinT, tvBinT.nil2, tvBinT.ptr2, tvBin, intBin, ofConst, ofValue, Option.map_some, reduceCtorEq, if_true, if_false, e1]; try rfl) ?_
      refine ops_prim rfl (by simp (disch := omega) only [evalPrim, ↓ev_tmp, ↓ev_const, ↓put_at, ↓put_none, ↓reduceIte, Nat.reduceEqDiff, argT_zero, argT_succ, e1]; try rfl) ?_
      iterate 2 refine ops_not 11 rfl rfl (by simp (disch := omega) only [evalPrim, ↓ev_tmp, ↓ev_const, ↓put_at, ↓put_none, ↓reduceIte, Nat.reduceEqDiff, argT_zero, argT_succ, Option.map_some, reduceCtorEq, if_true, if_false, beq_self_eq_true, bne_self_eq_false, Bool.not_true, Bool.not_false, e1]; try rfl) ?_
      refine ops_prim rfl (by simp (disch := omega) only [evalPrim, ↓ev_tmp, ↓ev_const, ↓put_at, ↓put_none, ↓reduceIte, Nat.reduceEqDiff, argT_zero, argT_succ, cond_true, cond_false, ofConst, ofValue, e1]; try rfl) ?_
      refine ops_nil ?_
      dsimp only [Then, InBlock, ↓reduceIte]
      rw [e]
      exact ⟨rfl, rfl, rfl, rfl⟩
    have e1 : decide (n < 0) = false := decide_eq_false h1
    have e : decide (n < 0 ∨ n > 1000) = decide (n > 1000) := by simp [h1]
    refine awp_reg _ (by kernel_rfl) rfl ?_
    refine ops_prim rfl (by simp (disch := omega) only [evalPrim, ↓ev_tmp, ↓ev_const, ↓put_at, ↓put_none, ↓reduceIte, Nat.reduceEqDiff, argT_zero, argT_succ, e1]; try rfl) ?_
    refine ops_prim rfl (by simp (disch := omega) only [evalPrim, ↓ev_tmp, ↓ev_const, ↓put_at, ↓put_none, ↓reduceIte, Nat.reduceEqDiff, argT_zero, argT_succ, tvBinT, tvBinT.nil2, tvBinT.ptr2, tvBin, intBin, ofConst, ofValue, Option.map_some, reduceCtorEq, if_true, if_false, e1]; try rfl) ?_
    refine ops_prim rfl (by simp (disch := omega) only [evalPrim, ↓ev_tmp, ↓ev_const, ↓put_at, ↓put_none, ↓reduceIte, Nat.reduceEqDiff, argT_zero, argT_succ, e1]; try rfl) ?_
    refine ops_yes 11 rfl rfl (by simp (disch := omega) only [evalPrim, ↓ev_tmp, ↓ev_const, ↓put_at, ↓put_none, ↓reduceIte, Nat.reduceEqDiff, argT_zero, argT_succ, Option.map_some, reduceCtorEq, if_true, if_false, beq_self_eq_true, bne_self_eq_false, Bool.not_true, Bool.not_false, e1]; try rfl) ?_
    refine ops_prim rfl (by simp (disch := omega) only [evalPrim, ↓ev_tmp, ↓ev_const, ↓put_at, ↓put_none, ↓reduceIte, Nat.reduceEqDiff, argT_zero, argT_succ, e1]; try rfl) ?_
    refine ops_yes 11 rfl rfl (by simp (disch := omega) only [evalPrim, ↓ev_tmp, ↓ev_const, ↓put_at, ↓put_none, ↓reduceIte, Nat.reduceEqDiff, argT_zero, argT_succ, Option.map_some, reduceCtorEq, if_true, if_false, beq_self_eq_true, bne_self_eq_false, Bool.not_true, Bool.not_false, e1]; try rfl) ?_
    refine ops_prim rfl (by simp (disch := omega) only [evalPrim, ↓ev_tmp, ↓ev_const, ↓put_at, ↓put_none, ↓reduceIte, Nat.reduceEqDiff, argT_zero, argT_succ, tvBinT, tvBinT.nil2, tvBinT.ptr2, tvBin, intBin, ofConst, ofValue, Option.map_some, reduceCtorEq, if_true, if_false, e1]; try rfl) ?_
    refine ops_prim rfl (by simp (disch := omega) only [evalPrim, ↓ev_tmp, ↓ev_const, ↓put_at, ↓put_none, ↓reduceIte, Nat.reduceEqDiff, argT_zero, argT_succ, cond_true, cond_false, ofConst, ofValue, e1]; try rfl) ?_
    refine ops_nil ?_
    dsimp only [Then, InBlock, ↓reduceIte]
    rw [e]
    exact ⟨rfl, rfl, rfl, rfl⟩
  · rintro T S ⟨h0, h1, rfl, h14⟩
    refine awp_ifc (by simp (disch := omega) only [evalPrim, ↓ev_tmp, ↓ev_const, ↓put_at, ↓put_none, ↓reduceIte, Nat.reduceEqDiff, argT_zero, argT_succ, Option.map_some, reduceCtorEq, if_true, if_false, h14]; try rfl) (fun hc => ?_) (fun hc => ?_)
    · simp only [decide_eq_true_eq] at hc
      refine awp_seq ?_
      refine awp_reg _ (by kernel_rfl) rfl ?_
      refine ops_call rfl rfl (by simp (disch := omega) only [callOf, List.nil_append, List.append_nil, List.cons_append, List.map_cons, List.map_nil, ofConst, ofValue, evalPrim, ↓ev_tmp, ↓ev_const, ↓put_at, ↓put_none, ↓reduceIte, Nat.reduceEqDiff, argT_zero, argT_succ]; rfl) (by kernel_rfl) (by kernel_rfl) (awake_ok) ?_
      refine ops_prim rfl (by simp (disch := omega) only [evalPrim, ↓ev_tmp, ↓ev_const, ↓put_at, ↓put_none, ↓reduceIte, Nat.reduceEqDiff, argT_zero, argT_succ, ofConst, ofValue]; try rfl) ?_
      refine ops_nil ?_
      dsimp only [Then, InBlock, ↓reduceIte]
      refine awp_ret ?_
      exact ret_ok (vs := [.c (.bool true)]) rfl rfl
    · simp only [decide_eq_false_iff_not] at hc
      have hn : 0 ≤ n ∧ n ≤ 1000 := by omega
      have hcn : cn n = n := by unfold cn mx mn; split <;> split <;> omega
      obtain ⟨N, rfl⟩ : ∃ N : Nat, n = (N : Int) := ⟨n.toNat, by omega⟩
      have hD := shufOf_dist d N
      rw [hcn, Int.toNat_natCast] at hD
      have hfst := shufOf_fst d N hn
      have w1 : IntKind.wrap .i64 ((N : Int) - 1) = (N : Int) - 1 := wr64 (by omega)
      refine awp_skip ?_
      dsimp only [Then, InBlock]
      refine awp_seq ?_
      refine awp_reg _ (by kernel_rfl) rfl ?_
      iterate 2 refine ops_prim rfl (by simp (disch := omega) only [evalPrim, ↓ev_tmp, ↓ev_const, ↓put_at, ↓put_none, ↓reduceIte, Nat.reduceEqDiff, argT_zero, argT_succ, h0, h1, shufV, hcn, Int.toNat_natCast]; try rfl) ?_
      refine ops_call rfl rfl (by simp (disch := omega) only [callOf, List.nil_append, List.append_nil, List.cons_append, List.map_cons, List.map_nil, ofConst, ofValue, evalPrim, ↓ev_tmp, ↓ev_const, ↓put_at, ↓put_none, ↓reduceIte, Nat.reduceEqDiff, argT_zero, argT_succ, h0, h1, shufV, hcn, Int.toNat_natCast]; rfl) (by kernel_rfl) (by kernel_rfl) (shuffle_c _ _) ?_
      refine ops_prim rfl (by simp (disch := omega) only [evalPrim, ↓ev_tmp, ↓ev_const, ↓put_at, ↓put_none, ↓reduceIte, Nat.reduceEqDiff, argT_zero, argT_succ, h0, h1, shufV, hcn, Int.toNat_natCast]; try rfl) ?_
      iterate 2 refine ops_prim rfl (by simp (disch := omega) only [evalPrim, ↓ev_tmp, ↓ev_const, ↓put_at, ↓put_none, ↓reduceIte, Nat.reduceEqDiff, argT_zero, argT_succ, tvExtract, List.getElem?_cons_zero, List.getElem?_cons_succ, Option.map_some, reduceCtorEq, if_true, if_false, h0, h1, shufV, hcn, Int.toNat_natCast]; try rfl) ?_
      iterate 2 refine ops_prim rfl (by simp (disch := omega) only [evalPrim, ↓ev_tmp, ↓ev_const, ↓put_at, ↓put_none, ↓reduceIte, Nat.reduceEqDiff, argT_zero, argT_succ, ofConst, ofValue, h0, h1, shufV, hcn, Int.toNat_natCast]; try rfl) ?_
      refine ops_nil ?_
      dsimp only [Then, InBlock, ↓reduceIte]
      refine awp_seq ?_
      refine awp_seq ?_
      refine awp_reg _ (by kernel_rfl) rfl ?_
      refine ops_prim rfl (by simp (disch := omega) only [evalPrim, ↓ev_tmp, ↓ev_const, ↓put_at, ↓put_none, ↓reduceIte, Nat.reduceEqDiff, argT_zero, argT_succ, h0, h1, Try.underlying29, hfst, w1, bne_self_eq_false]; try rfl) ?_
      refine ops_prim rfl (by simp (disch := omega) only [evalPrim, ↓ev_tmp, ↓ev_const, ↓put_at, ↓put_none, ↓reduceIte, Nat.reduceEqDiff, argT_zero, argT_succ, tvLen, tvMax, tvMin, tvFold, tvAppend, srcOf, List.map_cons, List.map_nil, ofConst, ofValue, Option.map_some, reduceCtorEq, if_true, if_false, h0, h1, Try.underlying29, hfst, w1, bne_self_eq_false]; try rfl) ?_
      refine ops_prim rfl (by simp (disch := omega) only [evalPrim, ↓ev_tmp, ↓ev_const, ↓put_at, ↓put_none, ↓reduceIte, Nat.reduceEqDiff, argT_zero, argT_succ, h0, h1, Try.underlying29, hfst, w1, bne_self_eq_false]; try rfl) ?_
      refine ops_prim rfl (by simp (disch := omega) only [evalPrim, ↓ev_tmp, ↓ev_const, ↓put_at, ↓put_none, ↓reduceIte, Nat.reduceEqDiff, argT_zero, argT_succ, tvBinT, tvBinT.nil2, tvBinT.ptr2, tvBin, intBin, ofConst, ofValue, Option.map_some, reduceCtorEq, if_true, if_false, h0, h1, Try.underlying29, hfst, w1, bne_self_eq_false]; try rfl) ?_
      refine ops_prim rfl (by simp (disch := omega) only [evalPrim, ↓ev_tmp, ↓ev_const, ↓put_at, ↓put_none, ↓reduceIte, Nat.reduceEqDiff, argT_zero, argT_succ, h0, h1, Try.underlying29, hfst, w1, bne_self_eq_false]; try rfl) ?_
      refine ops_yes 26 rfl rfl (by simp (disch := omega) only [evalPrim, ↓ev_tmp, ↓ev_const, ↓put_at, ↓put_none, ↓reduceIte, Nat.reduceEqDiff, argT_zero, argT_succ, Option.map_some, reduceCtorEq, if_true, if_false, beq_self_eq_true, bne_self_eq_false, Bool.not_true, Bool.not_false, h0, h1, Try.underlying29, hfst, w1]; try rfl) ?_
      refine ops_prim rfl (by simp (disch := omega) only [evalPrim, ↓ev_tmp, ↓ev_const, ↓put_at, ↓put_none, ↓reduceIte, Nat.reduceEqDiff, argT_zero, argT_succ, h0, h1, Try.underlying29, hfst, w1, bne_self_eq_false]; try rfl) ?_
      refine ops_yes 26 rfl rfl (by simp (disch := omega) only [evalPrim, ↓ev_tmp, ↓ev_const, ↓put_at, ↓put_none, ↓reduceIte, Nat.reduceEqDiff, argT_zero, argT_succ, Option.map_some, reduceCtorEq, if_true, if_false, beq_self_eq_true, bne_self_eq_false, Bool.not_true, Bool.not_false, h0, h1, Try.underlying29, hfst, w1]; try rfl) ?_
      refine ops_prim rfl (by simp (disch := omega) only [evalPrim, ↓ev_tmp, ↓ev_const, ↓put_at, ↓put_none, ↓reduceIte, Nat.reduceEqDiff, argT_zero, argT_succ, h0, h1, Try.underlying29, hfst, w1, bne_self_eq_false]; try rfl) ?_
      refine ops_yes 26 rfl rfl (by simp (disch := omega) only [evalPrim, ↓ev_tmp, ↓ev_const, ↓put_at, ↓put_none, ↓reduceIte, Nat.reduceEqDiff, argT_zero, argT_succ, Option.map_some, reduceCtorEq, if_true, if_false, beq_self_eq_true, bne_self_eq_false, Bool.not_true, Bool.not_false, h0, h1, Try.underlying29, hfst, w1]; try rfl) ?_
      refine ops_prim rfl (by simp (disch := omega) only [evalPrim, ↓ev_tmp, ↓ev_const, ↓put_at, ↓put_none, ↓reduceIte, Nat.reduceEqDiff, argT_zero, argT_succ, h0, h1, Try.underlying29, hfst, w1, bne_self_eq_false]; try rfl) ?_
      refine ops_yes 26 rfl rfl (by simp (disch := omega) only [evalPrim, ↓ev_tmp, ↓ev_const, ↓put_at, ↓put_none, ↓reduceIte, Nat.reduceEqDiff, argT_zero, argT_succ, Option.map_some, reduceCtorEq, if_true, if_false, beq_self_eq_true, bne_self_eq_false, Bool.not_true, Bool.not_false, h0, h1, Try.underlying29, hfst, w1]; try rfl) ?_
      refine ops_prim rfl (by simp (disch := omega) only [evalPrim, ↓ev_tmp, ↓ev_const, ↓put_at, ↓put_none, ↓reduceIte, Nat.reduceEqDiff, argT_zero, argT_succ, tvBinT, tvBinT.nil2, tvBinT.ptr2, tvBin, intBin, ofConst, ofValue, Option.map_some, reduceCtorEq, if_true, if_false, h0, h1, Try.underlying29, hfst, w1, bne_self_eq_false]; try rfl) ?_
      refine ops_yes 26 rfl rfl (by simp (disch := omega) only [evalPrim, ↓ev_tmp, ↓ev_const, ↓put_at, ↓put_none, ↓reduceIte, Nat.reduceEqDiff, argT_zero, argT_succ, Option.map_some, reduceCtorEq, if_true, if_false, beq_self_eq_true, bne_self_eq_false, Bool.not_true, Bool.not_false, h0, h1, Try.underlying29, hfst, w1]; try rfl) ?_
      refine ops_call rfl rfl (by simp (disch := omega) only [callOf, List.nil_append, List.append_nil, List.cons_append, List.map_cons, List.map_nil, ofConst, ofValue, evalPrim, ↓ev_tmp, ↓ev_const, ↓put_at, ↓put_none, ↓reduceIte, Nat.reduceEqDiff, argT_zero, argT_succ, h0, h1, Try.underlying29, hfst, w1, bne_self_eq_false]; rfl) (by kernel_rfl) (by kernel_rfl) (skip_sk _ _ (by omega)) ?_
      refine ops_yes 26 rfl rfl (by simp (disch := omega) only [evalPrim, ↓ev_tmp, ↓ev_const, ↓put_at, ↓put_none, ↓reduceIte, Nat.reduceEqDiff, argT_zero, argT_succ, Option.map_some, reduceCtorEq, if_true, if_false, beq_self_eq_true, bne_self_eq_false, Bool.not_true, Bool.not_false, h0, h1, Try.underlying29, hfst, w1]; try rfl) ?_
      refine ops_prim rfl (by simp (disch := omega) only [evalPrim, ↓ev_tmp, ↓ev_const, ↓put_at, ↓put_none, ↓reduceIte, Nat.reduceEqDiff, argT_zero, argT_succ, tvBinT, tvBinT.nil2, tvBinT.ptr2, tvBin, intBin, ofConst, ofValue, Option.map_some, reduceCtorEq, if_true, if_false, h0, h1, Try.underlying29, hfst, w1, bne_self_eq_false]; try rfl) ?_
      refine ops_prim rfl (by simp (disch := omega) only [evalPrim, ↓ev_tmp, ↓ev_const, ↓put_at, ↓put_none, ↓reduceIte, Nat.reduceEqDiff, argT_zero, argT_succ, cond_true, cond_false, ofConst, ofValue, h0, h1, Try.underlying29, hfst, w1, bne_self_eq_false]; try rfl) ?_
      refine ops_nil ?_
      dsimp only [Then, InBlock, ↓reduceIte]
      generalize hL : (shufOf d N).2 = L at hD ⊢
      obtain ⟨hl, hinj, hrg⟩ := hD
      refine awp_ifc (by simp (disch := omega) only [evalPrim, ↓ev_tmp, ↓ev_const, ↓put_at, ↓put_none, ↓reduceIte, Nat.reduceEqDiff, argT_zero, argT_succ, Option.map_some, reduceCtorEq, if_true, if_false]; try rfl) (fun hc => ?_) (fun hc => ?_)
      · simp at hc
      · refine awp_skip ?_
        dsimp only [Then, InBlock]
        refine awp_seq ?_
        refine awp_reg _ (by kernel_rfl) rfl ?_
        refine ops_prim rfl (by simp (disch := omega) only [evalPrim, ↓ev_tmp, ↓ev_const, ↓put_at, ↓put_none, ↓reduceIte, Nat.reduceEqDiff, argT_zero, argT_succ, h1, Try.underlying37, sz4, by4, zero4, if_pos, zrow_bls, Nat.mul_one, Int.toNat_natCast]; try rfl) ?_
        refine ops_prim rfl (by simp (disch := omega) only [evalPrim, ↓ev_tmp, ↓ev_const, ↓put_at, ↓put_none, ↓reduceIte, Nat.reduceEqDiff, argT_zero, argT_succ, tvMake, ofConst, ofValue, List.length_cons, List.length_nil, Nat.reduceAdd, Nat.reduceLT, and_true, Option.map_some, reduceCtorEq, if_true, if_false, h1, Try.underlying37, sz4, by4, zero4, if_pos, zrow_bls, Nat.mul_one, Int.toNat_natCast]; try rfl) ?_
        refine ops_prim rfl (by simp (disch := omega) only [evalPrim, ↓ev_tmp, ↓ev_const, ↓put_at, ↓put_none, ↓reduceIte, Nat.reduceEqDiff, argT_zero, argT_succ, ofConst, ofValue, h1, Try.underlying37, sz4, by4, zero4, if_pos, zrow_bls, Nat.mul_one, Int.toNat_natCast]; try rfl) ?_
        refine ops_nil ?_
        dsimp only [Then, InBlock, ↓reduceIte]
        refine awp_seq ?_
        refine awp_seq ?_
        refine awp_reg _ (by kernel_rfl) rfl ?_
        refine ops_prim rfl (by simp (disch := omega) only [evalPrim, ↓ev_tmp, ↓ev_const, ↓put_at, ↓put_none, ↓reduceIte, Nat.reduceEqDiff, argT_zero, argT_succ, ofConst, ofValue]; try rfl) ?_
        refine ops_nil ?_
        dsimp only [Then, InBlock, ↓reduceIte]
        refine awp_block ?_
        refine awp_loop (fun k T S => ∃ (i : Nat) (m : List Bool), k = N - i ∧ i ≤ N ∧ T 1 = .c (.int .i64 N) ∧ T 6 = .c (.sl N (intsC L)) ∧ T 7 = .view 0 0 0 N ∧ T 8 = .c (.int .i64 i) ∧
          S = Store.empty.push (.cells 0 4 1 (bls m)) ∧ m.length = N ∧ ∀ a, i ≤ a → a < N → m.getD (L.getD a 0).toNat false = false) N ⟨0, List.replicate N false, rfl, by omega, h1, rfl, rfl, rfl, rfl, by simp, fun a _ ha => by simp [List.getD_eq_getElem?_getD, List.getElem?_replicate]; split <;> rfl⟩ ?_
        clear h0 h1 h14
        rintro k T S ⟨i, m, rfl, hi, h1, h6, h7, h8, rfl, hm, hmet⟩
        refine awp_seq ?_
        refine awp_seq ?_
        refine awp_reg _ (by kernel_rfl) rfl ?_
        iterate 2 refine ops_prim rfl (by simp (disch := omega) only [evalPrim, ↓ev_tmp, ↓ev_const, ↓put_at, ↓put_none, ↓reduceIte, Nat.reduceEqDiff, argT_zero, argT_succ, h1, h8]; try rfl) ?_
        refine ops_prim rfl (by simp (disch := omega) only [evalPrim, ↓ev_tmp, ↓ev_const, ↓put_at, ↓put_none, ↓reduceIte, Nat.reduceEqDiff, argT_zero, argT_succ, tvBinT, tvBinT.nil2, tvBinT.ptr2, tvBin, intBin, ofConst, ofValue, Option.map_some, reduceCtorEq, if_true, if_false, h1, h8]; try rfl) ?_
        refine ops_nil ?_
        dsimp only [Then, InBlock, ↓reduceIte]
        refine awp_ifc (by simp (disch := omega) only [evalPrim, ↓ev_tmp, ↓ev_const, ↓put_at, ↓put_none, ↓reduceIte, Nat.reduceEqDiff, argT_zero, argT_succ, Option.map_some, reduceCtorEq, if_true, if_false]; try rfl) (fun hc => ?_) (fun hc => ?_)
        · simp only [decide_eq_true_eq] at hc
          have hiN : i < N := by omega
          obtain ⟨r0, r1⟩ := hrg i hiN
          have q1 : decide (L.getD i 0 < 0) = false := decide_eq_false (by omega)
          have q2 : decide (L.getD i 0 ≥ (N : Int)) = false := decide_eq_false (by omega)
          have q3 := hmet i (Nat.le_refl _) hiN
          refine awp_skip ?_
          dsimp only [Then, InBlock]
          refine awp_seq ?_
          refine awp_block ?_
          refine awp_seq ?_
          refine awp_seq ?_
          refine awp_reg _ (by kernel_rfl) rfl ?_
          iterate 2 refine ops_prim rfl (by simp (disch := omega) only [evalPrim, ↓ev_tmp, ↓ev_const, ↓put_at, ↓put_none, ↓reduceIte, Nat.reduceEqDiff, argT_zero, argT_succ, h1, h6, h7, h8, q1, q2, q3, Try.underlying29, Try.underlying37, Try.underlying3, Try.underlying4, sz3, sz4, agg3, agg4, if_pos, Nat.mul_one, Nat.zero_add, bls_len, bls_get, splice_bls, at_empty0, set_empty0, Int.toNat_natCast, Option.map_some, intsC_get, next_empty]; try rfl) ?_
          refine ops_prim rfl (by simp (disch := omega) only [evalPrim, ↓ev_tmp, ↓ev_const, ↓put_at, ↓put_none, ↓reduceIte, Nat.reduceEqDiff, argT_zero, argT_succ, tvIndexAddr, ofConst, ofValue, Option.map_some, reduceCtorEq, if_true, if_false, h1, h6, h7, h8, q1, q2, q3, Try.underlying29, Try.underlying37, Try.underlying3, Try.underlying4, sz3, sz4, agg3, agg4, if_pos, Nat.mul_one, Nat.zero_add, bls_len, bls_get, splice_bls, at_empty0, set_empty0, Int.toNat_natCast, intsC_get, next_empty]; try rfl) ?_
          refine ops_prim rfl (by simp (disch := omega) only [evalPrim, ↓ev_tmp, ↓ev_const, ↓put_at, ↓put_none, ↓reduceIte, Nat.reduceEqDiff, argT_zero, argT_succ, tvLoad, at_set_same, at_pushed, List.length_cons, List.length_nil, Nat.reduceAdd, Nat.reduceLeDiff, Nat.zero_add, Nat.le_refl, List.drop_zero, List.drop_succ_cons, List.take_succ_cons, List.take_zero, List.getElem?_cons_zero, List.getElem?_cons_succ, Bool.false_eq_true, Option.map_some, reduceCtorEq, if_true, if_false, h1, h6, h7, h8, q1, q2, q3, Try.underlying29, Try.underlying37, Try.underlying3, Try.underlying4, sz3, sz4, agg3, agg4, if_pos, Nat.mul_one, bls_len, bls_get, splice_bls, at_empty0, set_empty0, Int.toNat_natCast, intsC_get, next_empty]; try rfl) ?_
          refine ops_prim rfl (by simp (disch := omega) only [evalPrim, ↓ev_tmp, ↓ev_const, ↓put_at, ↓put_none, ↓reduceIte, Nat.reduceEqDiff, argT_zero, argT_succ, tvBinT, tvBinT.nil2, tvBinT.ptr2, tvBin, intBin, ofConst, ofValue, Option.map_some, reduceCtorEq, if_true, if_false, h1, h6, h7, h8, q1, q2, q3, Try.underlying29, Try.underlying37, Try.underlying3, Try.underlying4, sz3, sz4, agg3, agg4, if_pos, Nat.mul_one, Nat.zero_add, bls_len, bls_get, splice_bls, at_empty0, set_empty0, Int.toNat_natCast, intsC_get, next_empty]; try rfl) ?_
          refine ops_prim rfl (by simp (disch := omega) only [evalPrim, ↓ev_tmp, ↓ev_const, ↓put_at, ↓put_none, ↓reduceIte, Nat.reduceEqDiff, argT_zero, argT_succ, h1, h6, h7, h8, q1, q2, q3, Try.underlying29, Try.underlying37, Try.underlying3, Try.underlying4, sz3, sz4, agg3, agg4, if_pos, Nat.mul_one, Nat.zero_add, bls_len, bls_get, splice_bls, at_empty0, set_empty0, Int.toNat_natCast, Option.map_some, intsC_get, next_empty]; try rfl) ?_
          refine ops_yes 46 rfl rfl (by simp (disch := omega) only [evalPrim, ↓ev_tmp, ↓ev_const, ↓put_at, ↓put_none, ↓reduceIte, Nat.reduceEqDiff, argT_zero, argT_succ, Option.map_some, reduceCtorEq, if_true, if_false, beq_self_eq_true, bne_self_eq_false, Bool.not_true, Bool.not_false, h1, h6, h7, h8, q1, q2, q3, Try.underlying29, Try.underlying37, Try.underlying3, Try.underlying4, sz3, sz4, agg3, agg4, if_pos, Nat.mul_one, Nat.zero_add, bls_len, bls_get, splice_bls, at_empty0, set_empty0, Int.toNat_natCast, intsC_get, next_empty]; try rfl) ?_
          refine ops_prim rfl (by simp (disch := omega) only [evalPrim, ↓ev_tmp, ↓ev_const, ↓put_at, ↓put_none, ↓reduceIte, Nat.reduceEqDiff, argT_zero, argT_succ, h1, h6, h7, h8, q1, q2, q3, Try.underlying29, Try.underlying37, Try.underlying3, Try.underlying4, sz3, sz4, agg3, agg4, if_pos, Nat.mul_one, Nat.zero_add, bls_len, bls_get, splice_bls, at_empty0, set_empty0, Int.toNat_natCast, Option.map_some, intsC_get, next_empty]; try rfl) ?_
          refine ops_yes 46 rfl rfl (by simp (disch := omega) only [evalPrim, ↓ev_tmp, ↓ev_const, ↓put_at, ↓put_none, ↓reduceIte, Nat.reduceEqDiff, argT_zero, argT_succ, Option.map_some, reduceCtorEq, if_true, if_false, beq_self_eq_true, bne_self_eq_false, Bool.not_true, Bool.not_false, h1, h6, h7, h8, q1, q2, q3, Try.underlying29, Try.underlying37, Try.underlying3, Try.underlying4, sz3, sz4, agg3, agg4, if_pos, Nat.mul_one, Nat.zero_add, bls_len, bls_get, splice_bls, at_empty0, set_empty0, Int.toNat_natCast, intsC_get, next_empty]; try rfl) ?_
          refine ops_prim rfl (by simp (disch := omega) only [evalPrim, ↓ev_tmp, ↓ev_const, ↓put_at, ↓put_none, ↓reduceIte, Nat.reduceEqDiff, argT_zero, argT_succ, h1, h6, h7, h8, q1, q2, q3, Try.underlying29, Try.underlying37, Try.underlying3, Try.underlying4, sz3, sz4, agg3, agg4, if_pos, Nat.mul_one, Nat.zero_add, bls_len, bls_get, splice_bls, at_empty0, set_empty0, Int.toNat_natCast, Option.map_some, intsC_get, next_empty]; try rfl) ?_
          refine ops_yes 46 rfl rfl (by simp (disch := omega) only [evalPrim, ↓ev_tmp, ↓ev_const, ↓put_at, ↓put_none, ↓reduceIte, Nat.reduceEqDiff, argT_zero, argT_succ, Option.map_some, reduceCtorEq, if_true, if_false, beq_self_eq_true, bne_self_eq_false, Bool.not_true, Bool.not_false, h1, h6, h7, h8, q1, q2, q3, Try.underlying29, Try.underlying37, Try.underlying3, Try.underlying4, sz3, sz4, agg3, agg4, if_pos, Nat.mul_one, Nat.zero_add, bls_len, bls_get, splice_bls, at_empty0, set_empty0, Int.toNat_natCast, intsC_get, next_empty]; try rfl) ?_
          refine ops_prim rfl (by simp (disch := omega) only [evalPrim, ↓ev_tmp, ↓ev_const, ↓put_at, ↓put_none, ↓reduceIte, Nat.reduceEqDiff, argT_zero, argT_succ, tvIndexAddr, ofConst, ofValue, Option.map_some, reduceCtorEq, if_true, if_false, h1, h6, h7, h8, q1, q2, q3, Try.underlying29, Try.underlying37, Try.underlying3, Try.underlying4, sz3, sz4, agg3, agg4, if_pos, Nat.mul_one, Nat.zero_add, bls_len, bls_get, splice_bls, at_empty0, set_empty0, Int.toNat_natCast, intsC_get, next_empty]; try rfl) ?_
          refine ops_yes 46 rfl rfl (by simp (disch := omega) only [evalPrim, ↓ev_tmp, ↓ev_const, ↓put_at, ↓put_none, ↓reduceIte, Nat.reduceEqDiff, argT_zero, argT_succ, Option.map_some, reduceCtorEq, if_true, if_false, beq_self_eq_true, bne_self_eq_false, Bool.not_true, Bool.not_false, h1, h6, h7, h8, q1, q2, q3, Try.underlying29, Try.underlying37, Try.underlying3, Try.underlying4, sz3, sz4, agg3, agg4, if_pos, Nat.mul_one, Nat.zero_add, bls_len, bls_get, splice_bls, at_empty0, set_empty0, Int.toNat_natCast, intsC_get, next_empty]; try rfl) ?_
          refine ops_prim rfl (by simp (disch := omega) only [evalPrim, ↓ev_tmp, ↓ev_const, ↓put_at, ↓put_none, ↓reduceIte, Nat.reduceEqDiff, argT_zero, argT_succ, tvLoad, at_set_same, at_pushed, List.length_cons, List.length_nil, Nat.reduceAdd, Nat.reduceLeDiff, Nat.zero_add, Nat.le_refl, List.drop_zero, List.drop_succ_cons, List.take_succ_cons, List.take_zero, List.getElem?_cons_zero, List.getElem?_cons_succ, Bool.false_eq_true, Option.map_some, reduceCtorEq, if_true, if_false, h1, h6, h7, h8, q1, q2, q3, Try.underlying29, Try.underlying37, Try.underlying3, Try.underlying4, sz3, sz4, agg3, agg4, if_pos, Nat.mul_one, bls_len, bls_get, splice_bls, at_empty0, set_empty0, Int.toNat_natCast, intsC_get, next_empty]; try rfl) ?_
          refine ops_yes 46 rfl rfl (by simp (disch := omega) only [evalPrim, ↓ev_tmp, ↓ev_const, ↓put_at, ↓put_none, ↓reduceIte, Nat.reduceEqDiff, argT_zero, argT_succ, Option.map_some, reduceCtorEq, if_true, if_false, beq_self_eq_true, bne_self_eq_false, Bool.not_true, Bool.not_false, h1, h6, h7, h8, q1, q2, q3, Try.underlying29, Try.underlying37, Try.underlying3, Try.underlying4, sz3, sz4, agg3, agg4, if_pos, Nat.mul_one, Nat.zero_add, bls_len, bls_get, splice_bls, at_empty0, set_empty0, Int.toNat_natCast, intsC_get, next_empty]; try rfl) ?_
          refine ops_prim rfl (by simp (disch := omega) only [evalPrim, ↓ev_tmp, ↓ev_const, ↓put_at, ↓put_none, ↓reduceIte, Nat.reduceEqDiff, argT_zero, argT_succ, h1, h6, h7, h8, q1, q2, q3, Try.underlying29, Try.underlying37, Try.underlying3, Try.underlying4, sz3, sz4, agg3, agg4, if_pos, Nat.mul_one, Nat.zero_add, bls_len, bls_get, splice_bls, at_empty0, set_empty0, Int.toNat_natCast, Option.map_some, intsC_get, next_empty]; try rfl) ?_
          refine ops_yes 46 rfl rfl (by simp (disch := omega) only [evalPrim, ↓ev_tmp, ↓ev_const, ↓put_at, ↓put_none, ↓reduceIte, Nat.reduceEqDiff, argT_zero, argT_succ, Option.map_some, reduceCtorEq, if_true, if_false, beq_self_eq_true, bne_self_eq_false, Bool.not_true, Bool.not_false, h1, h6, h7, h8, q1, q2, q3, Try.underlying29, Try.underlying37, Try.underlying3, Try.underlying4, sz3, sz4, agg3, agg4, if_pos, Nat.mul_one, Nat.zero_add, bls_len, bls_get, splice_bls, at_empty0, set_empty0, Int.toNat_natCast, intsC_get, next_empty]; try rfl) ?_
          refine ops_prim rfl (by simp (disch := omega) only [evalPrim, ↓ev_tmp, ↓ev_const, ↓put_at, ↓put_none, ↓reduceIte, Nat.reduceEqDiff, argT_zero, argT_succ, tvBinT, tvBinT.nil2, tvBinT.ptr2, tvBin, intBin, ofConst, ofValue, Option.map_some, reduceCtorEq, if_true, if_false, h1, h6, h7, h8, q1, q2, q3, Try.underlying29, Try.underlying37, Try.underlying3, Try.underlying4, sz3, sz4, agg3, agg4, if_pos, Nat.mul_one, Nat.zero_add, bls_len, bls_get, splice_bls, at_empty0, set_empty0, Int.toNat_natCast, intsC_get, next_empty]; try rfl) ?_
          refine ops_prim rfl (by simp (disch := omega) only [evalPrim, ↓ev_tmp, ↓ev_const, ↓put_at, ↓put_none, ↓reduceIte, Nat.reduceEqDiff, argT_zero, argT_succ, cond_true, cond_false, ofConst, ofValue, h1, h6, h7, h8, q1, q2, q3, Try.underlying29, Try.underlying37, Try.underlying3, Try.underlying4, sz3, sz4, agg3, agg4, if_pos, Nat.mul_one, Nat.zero_add, bls_len, bls_get, splice_bls, at_empty0, set_empty0, Int.toNat_natCast, Option.map_some, intsC_get, next_empty]; try rfl) ?_
          refine ops_prim rfl (by simp (disch := omega) only [evalPrim, ↓ev_tmp, ↓ev_const, ↓put_at, ↓put_none, ↓reduceIte, Nat.reduceEqDiff, argT_zero, argT_succ, h1, h6, h7, h8, q1, q2, q3, Try.underlying29, Try.underlying37, Try.underlying3, Try.underlying4, sz3, sz4, agg3, agg4, if_pos, Nat.mul_one, Nat.zero_add, bls_len, bls_get, splice_bls, at_empty0, set_empty0, Int.toNat_natCast, Option.map_some, intsC_get, next_empty]; try rfl) ?_
          refine ops_yes 54 rfl rfl (by simp (disch := omega) only [evalPrim, ↓ev_tmp, ↓ev_const, ↓put_at, ↓put_none, ↓reduceIte, Nat.reduceEqDiff, argT_zero, argT_succ, Option.map_some, reduceCtorEq, if_true, if_false, beq_self_eq_true, bne_self_eq_false, Bool.not_true, Bool.not_false, h1, h6, h7, h8, q1, q2, q3, Try.underlying29, Try.underlying37, Try.underlying3, Try.underlying4, sz3, sz4, agg3, agg4, if_pos, Nat.mul_one, Nat.zero_add, bls_len, bls_get, splice_bls, at_empty0, set_empty0, Int.toNat_natCast, intsC_get, next_empty]; try rfl) ?_
          refine ops_prim rfl (by simp (disch := omega) only [evalPrim, ↓ev_tmp, ↓ev_const, ↓put_at, ↓put_none, ↓reduceIte, Nat.reduceEqDiff, argT_zero, argT_succ, h1, h6, h7, h8, q1, q2, q3, Try.underlying29, Try.underlying37, Try.underlying3, Try.underlying4, sz3, sz4, agg3, agg4, if_pos, Nat.mul_one, Nat.zero_add, bls_len, bls_get, splice_bls, at_empty0, set_empty0, Int.toNat_natCast, Option.map_some, intsC_get, next_empty]; try rfl) ?_
          refine ops_yes 54 rfl rfl (by simp (disch := omega) only [evalPrim, ↓ev_tmp, ↓ev_const, ↓put_at, ↓put_none, ↓reduceIte, Nat.reduceEqDiff, argT_zero, argT_succ, Option.map_some, reduceCtorEq, if_true, if_false, beq_self_eq_true, bne_self_eq_false, Bool.not_true, Bool.not_false, h1, h6, h7, h8, q1, q2, q3, Try.underlying29, Try.underlying37, Try.underlying3, Try.underlying4, sz3, sz4, agg3, agg4, if_pos, Nat.mul_one, Nat.zero_add, bls_len, bls_get, splice_bls, at_empty0, set_empty0, Int.toNat_natCast, intsC_get, next_empty]; try rfl) ?_
          refine ops_prim rfl (by simp (disch := omega) only [evalPrim, ↓ev_tmp, ↓ev_const, ↓put_at, ↓put_none, ↓reduceIte, Nat.reduceEqDiff, argT_zero, argT_succ, h1, h6, h7, h8, q1, q2, q3, Try.underlying29, Try.underlying37, Try.underlying3, Try.underlying4, sz3, sz4, agg3, agg4, if_pos, Nat.mul_one, Nat.zero_add, bls_len, bls_get, splice_bls, at_empty0, set_empty0, Int.toNat_natCast, Option.map_some, intsC_get, next_empty]; try rfl) ?_
          refine ops_yes 54 rfl rfl (by simp (disch := omega) only [evalPrim, ↓ev_tmp, ↓ev_const, ↓put_at, ↓put_none, ↓reduceIte, Nat.reduceEqDiff, argT_zero, argT_succ, Option.map_some, reduceCtorEq, if_true, if_false, beq_self_eq_true, bne_self_eq_false, Bool.not_true, Bool.not_false, h1, h6, h7, h8, q1, q2, q3, Try.underlying29, Try.underlying37, Try.underlying3, Try.underlying4, sz3, sz4, agg3, agg4, if_pos, Nat.mul_one, Nat.zero_add, bls_len, bls_get, splice_bls, at_empty0, set_empty0, Int.toNat_natCast, intsC_get, next_empty]; try rfl) ?_
          refine ops_prim rfl (by simp (disch := omega) only [evalPrim, ↓ev_tmp, ↓ev_const, ↓put_at, ↓put_none, ↓reduceIte, Nat.reduceEqDiff, argT_zero, argT_succ, h1, h6, h7, h8, q1, q2, q3, Try.underlying29, Try.underlying37, Try.underlying3, Try.underlying4, sz3, sz4, agg3, agg4, if_pos, Nat.mul_one, Nat.zero_add, bls_len, bls_get, splice_bls, at_empty0, set_empty0, Int.toNat_natCast, Option.map_some, intsC_get, next_empty]; try rfl) ?_
          refine ops_yes 54 rfl rfl (by simp (disch := omega) only [evalPrim, ↓ev_tmp, ↓ev_const, ↓put_at, ↓put_none, ↓reduceIte, Nat.reduceEqDiff, argT_zero, argT_succ, Option.map_some, reduceCtorEq, if_true, if_false, beq_self_eq_true, bne_self_eq_false, Bool.not_true, Bool.not_false, h1, h6, h7, h8, q1, q2, q3, Try.underlying29, Try.underlying37, Try.underlying3, Try.underlying4, sz3, sz4, agg3, agg4, if_pos, Nat.mul_one, Nat.zero_add, bls_len, bls_get, splice_bls, at_empty0, set_empty0, Int.toNat_natCast, intsC_get, next_empty]; try rfl) ?_
          refine ops_prim rfl (by simp (disch := omega) only [evalPrim, ↓ev_tmp, ↓ev_const, ↓put_at, ↓put_none, ↓reduceIte, Nat.reduceEqDiff, argT_zero, argT_succ, tvIndexAddr, ofConst, ofValue, Option.map_some, reduceCtorEq, if_true, if_false, h1, h6, h7, h8, q1, q2, q3, Try.underlying29, Try.underlying37, Try.underlying3, Try.underlying4, sz3, sz4, agg3, agg4, if_pos, Nat.mul_one, Nat.zero_add, bls_len, bls_get, splice_bls, at_empty0, set_empty0, Int.toNat_natCast, intsC_get, next_empty]; try rfl) ?_
          refine ops_yes 54 rfl rfl (by simp (disch := omega) only [evalPrim, ↓ev_tmp, ↓ev_const, ↓put_at, ↓put_none, ↓reduceIte, Nat.reduceEqDiff, argT_zero, argT_succ, Option.map_some, reduceCtorEq, if_true, if_false, beq_self_eq_true, bne_self_eq_false, Bool.not_true, Bool.not_false, h1, h6, h7, h8, q1, q2, q3, Try.underlying29, Try.underlying37, Try.underlying3, Try.underlying4, sz3, sz4, agg3, agg4, if_pos, Nat.mul_one, Nat.zero_add, bls_len, bls_get, splice_bls, at_empty0, set_empty0, Int.toNat_natCast, intsC_get, next_empty]; try rfl) ?_
          refine ops_prim rfl (by simp (disch := omega) only [evalPrim, ↓ev_tmp, ↓ev_const, ↓put_at, ↓put_none, ↓reduceIte, Nat.reduceEqDiff, argT_zero, argT_succ, tvLoad, at_set_same, at_pushed, List.length_cons, List.length_nil, Nat.reduceAdd, Nat.reduceLeDiff, Nat.zero_add, Nat.le_refl, List.drop_zero, List.drop_succ_cons, List.take_succ_cons, List.take_zero, List.getElem?_cons_zero, List.getElem?_cons_succ, Bool.false_eq_true, Option.map_some, reduceCtorEq, if_true, if_false, h1, h6, h7, h8, q1, q2, q3, Try.underlying29, Try.underlying37, Try.underlying3, Try.underlying4, sz3, sz4, agg3, agg4, if_pos, Nat.mul_one, bls_len, bls_get, splice_bls, at_empty0, set_empty0, Int.toNat_natCast, intsC_get, next_empty]; try rfl) ?_
          refine ops_yes 54 rfl rfl (by simp (disch := omega) only [evalPrim, ↓ev_tmp, ↓ev_const, ↓put_at, ↓put_none, ↓reduceIte, Nat.reduceEqDiff, argT_zero, argT_succ, Option.map_some, reduceCtorEq, if_true, if_false, beq_self_eq_true, bne_self_eq_false, Bool.not_true, Bool.not_false, h1, h6, h7, h8, q1, q2, q3, Try.underlying29, Try.underlying37, Try.underlying3, Try.underlying4, sz3, sz4, agg3, agg4, if_pos, Nat.mul_one, Nat.zero_add, bls_len, bls_get, splice_bls, at_empty0, set_empty0, Int.toNat_natCast, intsC_get, next_empty]; try rfl) ?_
          refine ops_prim rfl (by simp (disch := omega) only [evalPrim, ↓ev_tmp, ↓ev_const, ↓put_at, ↓put_none, ↓reduceIte, Nat.reduceEqDiff, argT_zero, argT_succ, tvIndexAddr, ofConst, ofValue, Option.map_some, reduceCtorEq, if_true, if_false, h1, h6, h7, h8, q1, q2, q3, Try.underlying29, Try.underlying37, Try.underlying3, Try.underlying4, sz3, sz4, agg3, agg4, if_pos, Nat.mul_one, Nat.zero_add, bls_len, bls_get, splice_bls, at_empty0, set_empty0, Int.toNat_natCast, intsC_get, next_empty]; try rfl) ?_
          refine ops_yes 54 rfl rfl (by simp (disch := omega) only [evalPrim, ↓ev_tmp, ↓ev_const, ↓put_at, ↓put_none, ↓reduceIte, Nat.reduceEqDiff, argT_zero, argT_succ, Option.map_some, reduceCtorEq, if_true, if_false, beq_self_eq_true, bne_self_eq_false, Bool.not_true, Bool.not_false, h1, h6, h7, h8, q1, q2, q3, Try.underlying29, Try.underlying37, Try.underlying3, Try.underlying4, sz3, sz4, agg3, agg4, if_pos, Nat.mul_one, Nat.zero_add, bls_len, bls_get, splice_bls, at_empty0, set_empty0, Int.toNat_natCast, intsC_get, next_empty]; try rfl) ?_
          refine ops_prim rfl (by simp (disch := omega) only [evalPrim, ↓ev_tmp, ↓ev_const, ↓put_at, ↓put_none, ↓reduceIte, Nat.reduceEqDiff, argT_zero, argT_succ, tvLoad, at_set_same, at_pushed, List.length_cons, List.length_nil, Nat.reduceAdd, Nat.reduceLeDiff, Nat.zero_add, Nat.le_refl, List.drop_zero, List.drop_succ_cons, List.take_succ_cons, List.take_zero, List.getElem?_cons_zero, List.getElem?_cons_succ, Bool.false_eq_true, Option.map_some, reduceCtorEq, if_true, if_false, h1, h6, h7, h8, q1, q2, q3, Try.underlying29, Try.underlying37, Try.underlying3, Try.underlying4, sz3, sz4, agg3, agg4, if_pos, Nat.mul_one, bls_len, bls_get, splice_bls, at_empty0, set_empty0, Int.toNat_natCast, intsC_get, next_empty]; try rfl) ?_
          refine ops_prim rfl (by simp (disch := omega) only [evalPrim, ↓ev_tmp, ↓ev_const, ↓put_at, ↓put_none, ↓reduceIte, Nat.reduceEqDiff, argT_zero, argT_succ, cond_true, cond_false, ofConst, ofValue, h1, h6, h7, h8, q1, q2, q3, Try.underlying29, Try.underlying37, Try.underlying3, Try.underlying4, sz3, sz4, agg3, agg4, if_pos, Nat.mul_one, Nat.zero_add, bls_len, bls_get, splice_bls, at_empty0, set_empty0, Int.toNat_natCast, Option.map_some, intsC_get, next_empty]; try rfl) ?_
          refine ops_nil ?_
          dsimp only [Then, InBlock, ↓reduceIte]
          refine awp_ifc (by simp (disch := omega) only [evalPrim, ↓ev_tmp, ↓ev_const, ↓put_at, ↓put_none, ↓reduceIte, Nat.reduceEqDiff, argT_zero, argT_succ, Option.map_some, reduceCtorEq, if_true, if_false]; try rfl) (fun hc => ?_) (fun hc => ?_)
          · simp at hc
          · refine awp_skip ?_
            dsimp only [Then, InBlock]
            refine awp_reg _ (by kernel_rfl) rfl ?_
            iterate 3 refine ops_prim rfl (by simp (disch := omega) only [evalPrim, ↓ev_tmp, ↓ev_const, ↓put_at, ↓put_none, ↓reduceIte, Nat.reduceEqDiff, argT_zero, argT_succ, h1, h6, h7, h8, Try.underlying29, Try.underlying37, Try.underlying3, Try.underlying4, sz3, sz4, agg3, agg4, if_pos, Nat.mul_one, Nat.zero_add, bls_len, bls_get, splice_bls, at_empty0, set_empty0, Int.toNat_natCast, Option.map_some, intsC_get, next_empty]; try rfl) ?_
            refine ops_prim rfl (by simp (disch := omega) only [evalPrim, ↓ev_tmp, ↓ev_const, ↓put_at, ↓put_none, ↓reduceIte, Nat.reduceEqDiff, argT_zero, argT_succ, tvIndexAddr, ofConst, ofValue, Option.map_some, reduceCtorEq, if_true, if_false, h1, h6, h7, h8, Try.underlying29, Try.underlying37, Try.underlying3, Try.underlying4, sz3, sz4, agg3, agg4, if_pos, Nat.mul_one, Nat.zero_add, bls_len, bls_get, splice_bls, at_empty0, set_empty0, Int.toNat_natCast, intsC_get, next_empty]; try rfl) ?_
            refine ops_prim rfl (by simp (disch := omega) only [evalPrim, ↓ev_tmp, ↓ev_const, ↓put_at, ↓put_none, ↓reduceIte, Nat.reduceEqDiff, argT_zero, argT_succ, tvLoad, at_set_same, at_pushed, List.length_cons, List.length_nil, Nat.reduceAdd, Nat.reduceLeDiff, Nat.zero_add, Nat.le_refl, List.drop_zero, List.drop_succ_cons, List.take_succ_cons, List.take_zero, List.getElem?_cons_zero, List.getElem?_cons_succ, Bool.false_eq_true, Option.map_some, reduceCtorEq, if_true, if_false, h1, h6, h7, h8, Try.underlying29, Try.underlying37, Try.underlying3, Try.underlying4, sz3, sz4, agg3, agg4, if_pos, Nat.mul_one, bls_len, bls_get, splice_bls, at_empty0, set_empty0, Int.toNat_natCast, intsC_get, next_empty]; try rfl) ?_
            refine ops_prim rfl (by simp (disch := omega) only [evalPrim, ↓ev_tmp, ↓ev_const, ↓put_at, ↓put_none, ↓reduceIte, Nat.reduceEqDiff, argT_zero, argT_succ, tvIndexAddr, ofConst, ofValue, Option.map_some, reduceCtorEq, if_true, if_false, h1, h6, h7, h8, Try.underlying29, Try.underlying37, Try.underlying3, Try.underlying4, sz3, sz4, agg3, agg4, if_pos, Nat.mul_one, Nat.zero_add, bls_len, bls_get, splice_bls, at_empty0, set_empty0, Int.toNat_natCast, intsC_get, next_empty]; try rfl) ?_
            refine ops_prim rfl (by simp (disch := omega) only [evalPrim, ↓ev_tmp, ↓ev_const, ↓put_at, ↓put_none, ↓reduceIte, Nat.reduceEqDiff, argT_zero, argT_succ, tvStore, ofConst, ofValue, cellsOf, at_set_same, at_pushed, List.length_cons, List.length_nil, Nat.reduceAdd, Nat.reduceLeDiff, Nat.zero_add, Nat.le_refl, List.all_cons, List.all_nil, TV.one, Bool.and_true, Bool.and_self, and_true, true_and, and_self, Option.map_some, reduceCtorEq, if_true, if_false, h1, h6, h7, h8, Try.underlying29, Try.underlying37, Try.underlying3, Try.underlying4, sz3, sz4, agg3, agg4, if_pos, Nat.mul_one, bls_len, bls_get, splice_bls, at_empty0, set_empty0, Int.toNat_natCast, intsC_get, next_empty]; try rfl) ?_
            refine ops_nil ?_
            dsimp only [Then, InBlock, ↓reduceIte]
            refine awp_reg _ (by kernel_rfl) rfl ?_
            refine ops_prim rfl (by simp (disch := omega) only [evalPrim, ↓ev_tmp, ↓ev_const, ↓put_at, ↓put_none, ↓reduceIte, Nat.reduceEqDiff, argT_zero, argT_succ, h8]; try rfl) ?_
            refine ops_prim rfl (by simp (disch := omega) only [evalPrim, ↓ev_tmp, ↓ev_const, ↓put_at, ↓put_none, ↓reduceIte, Nat.reduceEqDiff, argT_zero, argT_succ, tvBinT, tvBinT.nil2, tvBinT.ptr2, tvBin, intBin, ofConst, ofValue, Option.map_some, reduceCtorEq, if_true, if_false, h8]; try rfl) ?_
            refine ops_prim rfl (by simp (disch := omega) only [evalPrim, ↓ev_tmp, ↓ev_const, ↓put_at, ↓put_none, ↓reduceIte, Nat.reduceEqDiff, argT_zero, argT_succ, ofConst, ofValue, h8]; try rfl) ?_
            refine ops_nil ?_
            dsimp only [Then, InBlock, ↓reduceIte]
            refine ⟨N - (i + 1), by omega, i + 1, m.set (L.getD i 0).toNat true, rfl, by omega, h1, h6, h7, ?_, rfl, by simp [hm], fun a ha1 ha2 => ?_⟩
            · simp (disch := omega) only [evalPrim, ↓ev_tmp, ↓ev_const, ↓put_at, ↓put_none, ↓reduceIte, Nat.reduceEqDiff, argT_zero, argT_succ, Option.map_some, reduceCtorEq, if_true, if_false, at_set_same, at_pushed, next_push, next_set, next_empty, h8]
              rw [wr64 (by omega)]
              rfl
            · obtain ⟨s0, s1⟩ := hrg a ha2
              have hne : (L.getD i 0).toNat ≠ (L.getD a 0).toNat := fun e => by
                have := hinj i a hiN ha2 (by omega)
                omega
              rw [List.getD_eq_getElem?_getD, List.getElem?_set, if_neg hne, ← List.getD_eq_getElem?_getD]
              exact hmet a (by omega) ha2
        · refine awp_exit ?_
          dsimp only [Then, InBlock]
          refine Eq.mpr (if_pos rfl) ?_
          refine awp_seq ?_
          refine awp_reg _ (by kernel_rfl) rfl ?_
          refine ops_call rfl rfl (by simp (disch := omega) only [callOf, List.nil_append, List.append_nil, List.cons_append, List.map_cons, List.map_nil, ofConst, ofValue, evalPrim, ↓ev_tmp, ↓ev_const, ↓put_at, ↓put_none, ↓reduceIte, Nat.reduceEqDiff, argT_zero, argT_succ]; rfl) (by kernel_rfl) (by kernel_rfl) (awake_ok) ?_
          refine ops_prim rfl (by simp (disch := omega) only [evalPrim, ↓ev_tmp, ↓ev_const, ↓put_at, ↓put_none, ↓reduceIte, Nat.reduceEqDiff, argT_zero, argT_succ, ofConst, ofValue]; try rfl) ?_
          refine ops_nil ?_
          dsimp only [Then, InBlock, ↓reduceIte]
          refine awp_ret ?_
          exact ret_ok (vs := [.c (.bool true)]) rfl rfl
end Go.Sim
