/- A part of the proof: the walks of this law's functions. -/
import Derived.Test.YtgobcpfcekgcfaaD12
namespace Go.Sim
open Go Go.Proofs
set_option maxRecDepth 4000
set_option autoImplicit false
set_option linter.unusedSimpArgs false
set_option linter.unusedVariables false
theorem intsC_take (l : List Int) (n : Nat) : (intsC l).take n = intsC (l.take n) := by simp [intsC, List.map_take]
theorem among_c {l : List Int} {n : Nat} {x : Int} (hn : l.length = n) (hlen : n ≤ 1000000) : CCall Try.prog 28 [.c (.sl n (intsC l)), .c (.int .i64 x)] (.c (.bool (decide (x ∈ l)))) := by
  subst hn
  exact among_ok l x hlen
def flt (m : List Int) (i : Nat) : List Int := (iota i).filter fun x => decide (x ∈ m)
theorem flt_len (m : List Int) (i : Nat) : (flt m i).length ≤ i := by
  have := List.length_filter_le (fun x => decide (x ∈ m)) (iota i)
  simpa [flt, iota] using this
theorem iota_succ (i : Nat) : iota (i + 1) = iota i ++ [(i : Int)] := by simp [iota, List.range_succ]
theorem flt_yes {m : List Int} {i : Nat} (h : (i : Int) ∈ m) : flt m (i + 1) = flt m i ++ [(i : Int)] := by simp [flt, iota_succ, List.filter_append, h]
theorem flt_no {m : List Int} {i : Nat} (h : ¬ (i : Int) ∈ m) : flt m (i + 1) = flt m i := by simp [flt, iota_succ, List.filter_append, h]
def slC (l : List Int) : CV := if l = [] then .nilsl else .sl l.length (intsC l)
/-- A row that is being made: nothing yet, or a row of the store. -/
def Made (S : Store) (v : TV) (l : List Int) : Prop := (l = [] ∧ v = .c .nilsl) ∨ ∃ id g, l ≠ [] ∧ v = .view id g 0 l.length ∧ S.at id g = some (3, 1, ints l) ∧ id < S.next
theorem Made.frz {S : Store} {v : TV} {l : List Int} (h : Made S v l) : Frz S v (slC l) := by
  rcases h with ⟨rfl, rfl⟩ | ⟨id, g, hne, rfl, hat, _⟩
  · exact .c _
  · have := frz_ints (off := 0) (len := l.length) hat (by omega)
    rw [List.drop_zero, List.take_length] at this
    rw [slC, if_neg hne]
    exact this

theorem refsample_c (d n k : Int) : CCall Try.prog 21 [.c (.int .u64 d), .c (.int .i64 n), .c (.int .i64 k)] (.tup [.c (.int .u64 (shufOf d n).1), .c (slC (flt ((shufOf d n).2.take (cl k (cn n).toNat).toNat) (cn n).toNat))]) := by
  refine ccall_intro Try.func21 Try.ntmps21 rfl (Nat.le_of_ble_eq_true rfl) (by simp [Closed.c]) ?_
  have hlen := shufOf_len d n
  have hN := cn_range n
  have hcl := cl_range k (cn n).toNat
  have hs : shufV d n = .tup [.c (.int .u64 (shufOf d n).1), .c (.sl (cn n).toNat (intsC (shufOf d n).2))] := rfl
  generalize hNe : (cn n).toNat = N at *
  generalize hL : shufOf d n = L at *
  have ecl : mx 0 (mn k N) = cl k N := rfl
  refine awp_seq ?_
  refine awp_reg _ (by kernel_rfl) rfl ?_
  iterate 2 refine ops_prim rfl (by simp (disch := omega) only [evalPrim, ↓ev_tmp, ↓ev_const, ↓put_at, ↓put_none, ↓reduceIte, Nat.reduceEqDiff, argT_zero, argT_succ, ofConst, ofValue]; try rfl) ?_
  refine ops_nil ?_
  dsimp only [Then, InBlock, ↓reduceIte]
  refine awp_seq ?_
  refine awp_reg _ (by kernel_rfl) rfl ?_
  iterate 2 refine ops_prim rfl (by simp (disch := omega) only [evalPrim, ↓ev_tmp, ↓ev_const, ↓put_at, ↓put_none, ↓reduceIte, Nat.reduceEqDiff, argT_zero, argT_succ, hs]; try rfl) ?_
  refine ops_call rfl rfl (by simp (disch := omega) only [callOf, List.nil_append, List.append_nil, List.cons_append, List.map_cons, List.map_nil, ofConst, ofValue, evalPrim, ↓ev_tmp, ↓ev_const, ↓put_at, ↓put_none, ↓reduceIte, Nat.reduceEqDiff, argT_zero, argT_succ, hs]; rfl) (by kernel_rfl) (by kernel_rfl) (refshuffle_c _ _) ?_
  refine ops_prim rfl (by simp (disch := omega) only [evalPrim, ↓ev_tmp, ↓ev_const, ↓put_at, ↓put_none, ↓reduceIte, Nat.reduceEqDiff, argT_zero, argT_succ, hs]; try rfl) ?_
  iterate 2 refine ops_prim rfl (by simp (disch := omega) only [evalPrim, ↓ev_tmp, ↓ev_const, ↓put_at, ↓put_none, ↓reduceIte, Nat.reduceEqDiff, argT_zero, argT_succ, tvExtract, List.getElem?_cons_zero, List.getElem?_cons_succ, Option.map_some, reduceCtorEq, if_true, if_false, hs]; try rfl) ?_
  iterate 2 refine ops_prim rfl (by simp (disch := omega) only [evalPrim, ↓ev_tmp, ↓ev_const, ↓put_at, ↓put_none, ↓reduceIte, Nat.reduceEqDiff, argT_zero, argT_succ, ofConst, ofValue, hs]; try rfl) ?_
  refine ops_nil ?_
  dsimp only [Then, InBlock, ↓reduceIte]
  refine awp_seq ?_
  refine awp_reg _ (by kernel_rfl) rfl ?_
  iterate 2 refine ops_prim rfl (by simp (disch := omega) only [evalPrim, ↓ev_tmp, ↓ev_const, ↓put_at, ↓put_none, ↓reduceIte, Nat.reduceEqDiff, argT_zero, argT_succ, ecl, Try.underlying29]; try rfl) ?_
  refine ops_prim rfl (by simp (disch := omega) only [evalPrim, ↓ev_tmp, ↓ev_const, ↓put_at, ↓put_none, ↓reduceIte, Nat.reduceEqDiff, argT_zero, argT_succ, tvLen, tvMax, tvMin, tvFold, srcOf, List.map_cons, List.map_nil, ofConst, ofValue, Option.map_some, reduceCtorEq, if_true, if_false, ecl, Try.underlying29]; try rfl) ?_
  refine ops_call rfl rfl (by simp (disch := omega) only [callOf, List.nil_append, List.append_nil, List.cons_append, List.map_cons, List.map_nil, ofConst, ofValue, evalPrim, ↓ev_tmp, ↓ev_const, ↓put_at, ↓put_none, ↓reduceIte, Nat.reduceEqDiff, argT_zero, argT_succ, ecl, Try.underlying29]; rfl) (by kernel_rfl) (by kernel_rfl) (limited_ok _ _) ?_
  refine ops_prim rfl (by simp (disch := omega) only [evalPrim, ↓ev_tmp, ↓ev_const, ↓put_at, ↓put_none, ↓reduceIte, Nat.reduceEqDiff, argT_zero, argT_succ, ofConst, ofValue, ecl, Try.underlying29]; try rfl) ?_
  refine ops_nil ?_
  dsimp only [Then, InBlock, ↓reduceIte]
  refine awp_seq ?_
  refine awp_reg _ (by kernel_rfl) rfl ?_
  refine ops_prim rfl (by simp (disch := omega) only [evalPrim, ↓ev_tmp, ↓ev_const, ↓put_at, ↓put_none, ↓reduceIte, Nat.reduceEqDiff, argT_zero, argT_succ, ofConst, ofValue]; try rfl) ?_
  refine ops_nil ?_
  dsimp only [Then, InBlock, ↓reduceIte]
  refine awp_seq ?_
  refine awp_seq ?_
  refine awp_reg _ (by kernel_rfl) rfl ?_
  refine ops_prim rfl (by simp (disch := omega) only [evalPrim, ↓ev_tmp, ↓ev_const, ↓put_at, ↓put_none, ↓reduceIte, Nat.reduceEqDiff, argT_zero, argT_succ, ofConst, ofValue]; try rfl) ?_
  refine ops_nil ?_
  dsimp only [Then, InBlock, ↓reduceIte]
  refine awp_block ?_
  generalize hK : (cl k N).toNat = K
  have hKe : cl k N = (K : Int) := by omega
  generalize hM : L.2.take K = M
  have hMl : M.length = K := by rw [← hM]; simp; omega
  refine awp_loop (fun r T S => ∃ i : Nat, r = N - i ∧ i ≤ N ∧ T 2 = .c (.int .i64 K) ∧ T 8 = .c (.int .u64 L.1) ∧ T 9 = .c (.sl N (intsC L.2)) ∧ T 11 = .c (.int .i64 i) ∧ Made S (T 10) (flt M i)) N
    ⟨0, rfl, by omega, by rw [← hKe, ← ecl]; rfl, rfl, rfl, rfl, .inl ⟨rfl, rfl⟩⟩ ?_
  rintro r T S ⟨i, rfl, hi, h2, h8, h9, h11, hmade⟩
  refine awp_seq ?_
  refine awp_seq ?_
  refine awp_reg _ (by kernel_rfl) rfl ?_
  iterate 2 refine ops_prim rfl (by simp (disch := omega) only [evalPrim, ↓ev_tmp, ↓ev_const, ↓put_at, ↓put_none, ↓reduceIte, Nat.reduceEqDiff, argT_zero, argT_succ, h9, h11, Try.underlying29]; try rfl) ?_
  refine ops_prim rfl (by simp (disch := omega) only [evalPrim, ↓ev_tmp, ↓ev_const, ↓put_at, ↓put_none, ↓reduceIte, Nat.reduceEqDiff, argT_zero, argT_succ, tvLen, tvMax, tvMin, tvFold, srcOf, List.map_cons, List.map_nil, ofConst, ofValue, Option.map_some, reduceCtorEq, if_true, if_false, h9, h11, Try.underlying29]; try rfl) ?_
  refine ops_prim rfl (by simp (disch := omega) only [evalPrim, ↓ev_tmp, ↓ev_const, ↓put_at, ↓put_none, ↓reduceIte, Nat.reduceEqDiff, argT_zero, argT_succ, tvBinT, tvBinT.nil2, tvBinT.ptr2, tvBin, intBin, ofConst, ofValue, Option.map_some, reduceCtorEq, if_true, if_false, h9, h11, Try.underlying29]; try rfl) ?_
  refine ops_nil ?_
  dsimp only [Then, InBlock, ↓reduceIte]
  refine awp_ifc (by simp (disch := omega) only [evalPrim, ↓ev_tmp, ↓ev_const, ↓put_at, ↓put_none, ↓reduceIte, Nat.reduceEqDiff, argT_zero, argT_succ, Option.map_some, reduceCtorEq, if_true, if_false]; try rfl) (fun hc => ?_) (fun hc => ?_)
  · simp only [decide_eq_true_eq] at hc
    have hfl := flt_len M i
    refine awp_skip ?_
    dsimp only [Then, InBlock]
    refine awp_seq ?_
    refine awp_block ?_
    refine awp_seq ?_
    refine awp_reg _ (by kernel_rfl) rfl ?_
    iterate 2 refine ops_prim rfl (by simp (disch := omega) only [evalPrim, ↓ev_tmp, ↓ev_const, ↓put_at, ↓put_none, ↓reduceIte, Nat.reduceEqDiff, argT_zero, argT_succ, h2, h9, h11, hM, Try.underlying29, Try.underlying3, sz3, by3, zero3, agg3, if_pos, Nat.mul_one, Nat.one_mul, Nat.zero_mul, Nat.sub_zero, Nat.zero_add, ints_len, Int.toNat_natCast, boundOf, Option.map, intsC_take, List.drop_zero]; try rfl) ?_
    refine ops_prim rfl (by simp (disch := omega) only [evalPrim, ↓ev_tmp, ↓ev_const, ↓put_at, ↓put_none, ↓reduceIte, Nat.reduceEqDiff, argT_zero, argT_succ, tvSlice, boundOf, ofConst, ofValue, and_true, true_and, Nat.zero_le, Nat.zero_mul, Nat.sub_zero, Option.map_some, reduceCtorEq, if_true, if_false, h2, h9, h11, hM, Try.underlying29, Try.underlying3, sz3, by3, zero3, agg3, if_pos, Nat.mul_one, Nat.one_mul, Nat.zero_add, ints_len, Int.toNat_natCast, Option.map, intsC_take, List.drop_zero]; try rfl) ?_
    refine ops_prim rfl (by simp (disch := omega) only [evalPrim, ↓ev_tmp, ↓ev_const, ↓put_at, ↓put_none, ↓reduceIte, Nat.reduceEqDiff, argT_zero, argT_succ, h2, h9, h11, hM, Try.underlying29, Try.underlying3, sz3, by3, zero3, agg3, if_pos, Nat.mul_one, Nat.one_mul, Nat.zero_mul, Nat.sub_zero, Nat.zero_add, ints_len, Int.toNat_natCast, boundOf, Option.map, intsC_take, List.drop_zero]; try rfl) ?_
    refine ops_call rfl rfl (by simp (disch := omega) only [callOf, List.nil_append, List.append_nil, List.cons_append, List.map_cons, List.map_nil, ofConst, ofValue, evalPrim, ↓ev_tmp, ↓ev_const, ↓put_at, ↓put_none, ↓reduceIte, Nat.reduceEqDiff, argT_zero, argT_succ, h2, h9, h11, hM, Try.underlying29, Try.underlying3, sz3, by3, zero3, agg3, if_pos, Nat.mul_one, Nat.one_mul, Nat.zero_mul, Nat.sub_zero, Nat.zero_add, ints_len, Int.toNat_natCast, boundOf, Option.map, intsC_take, List.drop_zero]; rfl) (by kernel_rfl) (by kernel_rfl) (among_c hMl (by omega)) ?_
    refine ops_nil ?_
    dsimp only [Then, InBlock, ↓reduceIte]
    have w1 : IntKind.wrap .i64 ((i : Int) + 1) = ((i + 1 : Nat) : Int) := by rw [wr64 (by omega)]; omega
    refine awp_ifc (by simp (disch := omega) only [evalPrim, ↓ev_tmp, ↓ev_const, ↓put_at, ↓put_none, ↓reduceIte, Nat.reduceEqDiff, argT_zero, argT_succ, Option.map_some, reduceCtorEq, if_true, if_false]; try rfl) (fun hc => ?_) (fun hc => ?_)
    · simp only [decide_eq_true_eq] at hc
      refine awp_via (fun T' S' => T' 2 = .c (.int .i64 K) ∧ T' 8 = .c (.int .u64 L.1) ∧ T' 9 = .c (.sl N (intsC L.2)) ∧ T' 11 = .c (.int .i64 i) ∧ Made S' (T' 10) (flt M (i + 1))) ?_ ?_
      · rw [flt_yes hc]
        rcases hmade with ⟨hnil, h10⟩ | ⟨id, g, hne, h10, hat, hid⟩
        · rw [hnil]
          have hB := build_one (P := Try.prog) (S := S) Try.underlying29 sz3 zero3 (i : Int)
          have hA := app_nil (S := S.push (.cells 0 3 1 (ints [(i : Int)]))) Try.underlying29 Try.underlying29 sz3 by3 zero3 (off := 0) (n := 1) (at_push_self S 0 3 1 (ints [(i : Int)])) (by simp) (by omega) (by omega)
          refine awp_reg _ (by kernel_rfl) rfl ?_
          iterate 2 refine ops_prim rfl (by simp (disch := omega) only [evalPrim, ↓ev_tmp, ↓ev_const, ↓put_at, ↓put_none, ↓reduceIte, Nat.reduceEqDiff, argT_zero, argT_succ, h10, h11, hB, hA]; try rfl) ?_
          refine ops_prim rfl (by simp (disch := omega) only [evalPrim, ↓ev_tmp, ↓ev_const, ↓put_at, ↓put_none, ↓reduceIte, Nat.reduceEqDiff, argT_zero, argT_succ, evParts, tvFill, List.map_cons, List.map_nil, ofConst, ofValue, Option.map_some, reduceCtorEq, if_true, if_false, h10, h11, hB, hA]; try rfl) ?_
          refine ops_prim rfl (by simp (disch := omega) only [evalPrim, ↓ev_tmp, ↓ev_const, ↓put_at, ↓put_none, ↓reduceIte, Nat.reduceEqDiff, argT_zero, argT_succ, tvLen, tvMax, tvMin, tvFold, srcOf, List.map_cons, List.map_nil, ofConst, ofValue, Option.map_some, reduceCtorEq, if_true, if_false, h10, h11, hB, hA]; try rfl) ?_
          refine ops_prim rfl (by simp (disch := omega) only [evalPrim, ↓ev_tmp, ↓ev_const, ↓put_at, ↓put_none, ↓reduceIte, Nat.reduceEqDiff, argT_zero, argT_succ, ofConst, ofValue, h10, h11, hB, hA]; try rfl) ?_
          refine ops_nil ?_
          dsimp only [Then, InBlock, ↓reduceIte]
          refine ⟨h2, h8, h9, h11, .inr ⟨_, 0, by simp, rfl, ?_, ?_⟩⟩
          · exact at_push_self _ _ _ _ _
          · simp only [next_push]; omega
        · have hB := build_one (P := Try.prog) (S := S) Try.underlying29 sz3 zero3 (i : Int)
          have hat' : (S.push (.cells 0 3 1 (ints [(i : Int)]))).at id g = some (3, 1, ints (flt M i)) := by rw [at_push hid]; exact hat
          have hA := app_view (S := S.push (.cells 0 3 1 (ints [(i : Int)]))) Try.underlying29 Try.underlying29 sz3 by3 zero3 (off := 0) (n := 1) (at_push_self S 0 3 1 (ints [(i : Int)])) (by simp) (by omega) hat' (off0 := 0) (n0 := (flt M i).length) (by omega) (by omega)
          refine awp_reg _ (by kernel_rfl) rfl ?_
          iterate 2 refine ops_prim rfl (by simp (disch := omega) only [evalPrim, ↓ev_tmp, ↓ev_const, ↓put_at, ↓put_none, ↓reduceIte, Nat.reduceEqDiff, argT_zero, argT_succ, h10, h11, hB, hA]; try rfl) ?_
          refine ops_prim rfl (by simp (disch := omega) only [evalPrim, ↓ev_tmp, ↓ev_const, ↓put_at, ↓put_none, ↓reduceIte, Nat.reduceEqDiff, argT_zero, argT_succ, evParts, tvFill, List.map_cons, List.map_nil, ofConst, ofValue, Option.map_some, reduceCtorEq, if_true, if_false, h10, h11, hB, hA]; try rfl) ?_
          refine ops_prim rfl (by simp (disch := omega) only [evalPrim, ↓ev_tmp, ↓ev_const, ↓put_at, ↓put_none, ↓reduceIte, Nat.reduceEqDiff, argT_zero, argT_succ, tvLen, tvMax, tvMin, tvFold, srcOf, List.map_cons, List.map_nil, ofConst, ofValue, Option.map_some, reduceCtorEq, if_true, if_false, h10, h11, hB, hA]; try rfl) ?_
          refine ops_prim rfl (by simp (disch := omega) only [evalPrim, ↓ev_tmp, ↓ev_const, ↓put_at, ↓put_none, ↓reduceIte, Nat.reduceEqDiff, argT_zero, argT_succ, ofConst, ofValue, h10, h11, hB, hA]; try rfl) ?_
          refine ops_nil ?_
          dsimp only [Then, InBlock, ↓reduceIte]
          refine ⟨h2, h8, h9, h11, .inr ⟨id, g + 1, by simp, ?_, ?_, ?_⟩⟩
          · simp (disch := omega) only [evalPrim, ↓ev_tmp, ↓ev_const, ↓put_at, ↓put_none, ↓reduceIte, Nat.reduceEqDiff, argT_zero, argT_succ, Option.map_some, reduceCtorEq, if_true, if_false, at_set_same, at_pushed, next_push, next_set, next_empty, List.length_append, List.length_cons, List.length_nil]
          · rw [at_set_same]
            simp
          · simp only [next_push, next_set]; omega
      · rintro T' S' ⟨h2, h8, h9, h11, hmade⟩
        dsimp only [Then, InBlock]
        refine awp_reg _ (by kernel_rfl) rfl ?_
        refine ops_prim rfl (by simp (disch := omega) only [evalPrim, ↓ev_tmp, ↓ev_const, ↓put_at, ↓put_none, ↓reduceIte, Nat.reduceEqDiff, argT_zero, argT_succ, h11, w1]; try rfl) ?_
        refine ops_prim rfl (by simp (disch := omega) only [evalPrim, ↓ev_tmp, ↓ev_const, ↓put_at, ↓put_none, ↓reduceIte, Nat.reduceEqDiff, argT_zero, argT_succ, tvBinT, tvBinT.nil2, tvBinT.ptr2, tvBin, intBin, ofConst, ofValue, Option.map_some, reduceCtorEq, if_true, if_false, h11, w1]; try rfl) ?_
        refine ops_prim rfl (by simp (disch := omega) only [evalPrim, ↓ev_tmp, ↓ev_const, ↓put_at, ↓put_none, ↓reduceIte, Nat.reduceEqDiff, argT_zero, argT_succ, ofConst, ofValue, h11, w1]; try rfl) ?_
        refine ops_nil ?_
        dsimp only [Then, InBlock, ↓reduceIte]
        exact ⟨N - (i + 1), by omega, i + 1, rfl, by omega, h2, h8, h9, rfl, hmade⟩
    · simp only [decide_eq_false_iff_not] at hc
      refine awp_skip ?_
      dsimp only [Then, InBlock]
      refine awp_reg _ (by kernel_rfl) rfl ?_
      refine ops_prim rfl (by simp (disch := omega) only [evalPrim, ↓ev_tmp, ↓ev_const, ↓put_at, ↓put_none, ↓reduceIte, Nat.reduceEqDiff, argT_zero, argT_succ, h11, w1]; try rfl) ?_
      refine ops_prim rfl (by simp (disch := omega) only [evalPrim, ↓ev_tmp, ↓ev_const, ↓put_at, ↓put_none, ↓reduceIte, Nat.reduceEqDiff, argT_zero, argT_succ, tvBinT, tvBinT.nil2, tvBinT.ptr2, tvBin, intBin, ofConst, ofValue, Option.map_some, reduceCtorEq, if_true, if_false, h11, w1]; try rfl) ?_
      refine ops_prim rfl (by simp (disch := omega) only [evalPrim, ↓ev_tmp, ↓ev_const, ↓put_at, ↓put_none, ↓reduceIte, Nat.reduceEqDiff, argT_zero, argT_succ, ofConst, ofValue, h11, w1]; try rfl) ?_
      refine ops_nil ?_
      dsimp only [Then, InBlock, ↓reduceIte]
      refine ⟨N - (i + 1), by omega, i + 1, rfl, by omega, h2, h8, h9, rfl, ?_⟩
      rw [flt_no hc]
      exact hmade
  · simp only [decide_eq_false_iff_not] at hc
    have hiN : i = N := by omega
    subst hiN
    refine awp_exit ?_
    dsimp only [Then, InBlock]
    refine Eq.mpr (if_pos rfl) ?_
    refine awp_seq ?_
    refine awp_reg _ (by kernel_rfl) rfl ?_
    iterate 2 refine ops_prim rfl (by simp (disch := omega) only [evalPrim, ↓ev_tmp, ↓ev_const, ↓put_at, ↓put_none, ↓reduceIte, Nat.reduceEqDiff, argT_zero, argT_succ, h8]; try rfl) ?_
    iterate 2 refine ops_prim rfl (by simp (disch := omega) only [evalPrim, ↓ev_tmp, ↓ev_const, ↓put_at, ↓put_none, ↓reduceIte, Nat.reduceEqDiff, argT_zero, argT_succ, ofConst, ofValue, h8]; try rfl) ?_
    refine ops_nil ?_
    dsimp only [Then, InBlock, ↓reduceIte]
    refine awp_ret ?_
    exact ⟨[.c (.int .u64 L.1), T 10], rfl, frz_pair hmade.frz⟩
end Go.Sim
