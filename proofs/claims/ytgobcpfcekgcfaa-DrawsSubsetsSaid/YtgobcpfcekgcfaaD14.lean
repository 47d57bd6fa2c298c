/- A part of the proof: the walks of this law's functions. -/
import Derived.Test.YtgobcpfcekgcfaaD13
namespace Go.Sim
open Go Go.Proofs
set_option maxRecDepth 4000
set_option autoImplicit false
set_option linter.unusedSimpArgs false
set_option linter.unusedVariables false
theorem sorted_ext : ∀ (a b : List Int), a.Pairwise (· < ·) → b.Pairwise (· < ·) → (∀ x, x ∈ a ↔ x ∈ b) → a = b
  | [], [], _, _, _ => rfl
  | [], y :: b, _, _, h => by have := (h y).2 (by simp); simp at this
  | x :: a, [], _, _, h => by have := (h x).1 (by simp); simp at this
  | x :: a, y :: b, ha, hb, h => by
    rw [List.pairwise_cons] at ha hb
    have e : x = y := by
      have h1 := (h x).1 (by simp)
      have h2 := (h y).2 (by simp)
      rw [List.mem_cons] at h1 h2
      rcases h1 with h1 | h1
      · exact h1
      · rcases h2 with h2 | h2
        · exact h2.symm
        · have := hb.1 x h1
          have := ha.1 y h2
          omega
    subst e
    congr 1
    refine sorted_ext a b ha.2 hb.2 fun z => ⟨fun hz => ?_, fun hz => ?_⟩
    · have := (h z).1 (List.mem_cons_of_mem _ hz)
      rw [List.mem_cons] at this
      rcases this with h1 | h1
      · have := ha.1 z hz
        omega
      · exact h1
    · have := (h z).2 (List.mem_cons_of_mem _ hz)
      rw [List.mem_cons] at this
      rcases this with h1 | h1
      · have := hb.1 z hz
        omega
      · exact h1

theorem Dist.nodup {l : List Int} {n : Nat} (h : Dist l n) : l.Nodup := by
  obtain ⟨hl, h1, _⟩ := h
  rw [List.Nodup, List.pairwise_iff_getElem]
  intro i j hi hj hij he
  have := h1 i j (by omega) (by omega) (by simp [List.getD_eq_getElem?_getD, hi, hj, he])
  omega
theorem Dist.mem {l : List Int} {n : Nat} (h : Dist l n) {x : Int} (hx : x ∈ l) : 0 ≤ x ∧ x < n := by
  obtain ⟨hl, _, h2⟩ := h
  obtain ⟨i, hi, rfl⟩ := List.getElem_of_mem hx
  have := h2 i (by omega)
  simpa [List.getD_eq_getElem?_getD, hi] using this

theorem sort_lt {m : List Int} (hn : m.Nodup) : (m.mergeSort fun x y => decide (x ≤ y)).Pairwise (· < ·) := by
  have h1 := List.pairwise_mergeSort (le := fun (x y : Int) => decide (x ≤ y)) (fun a b c h1 h2 => by simp at *; omega) (fun a b => by simp; omega) m
  have h2 : (m.mergeSort fun x y => decide (x ≤ y)).Nodup := (List.mergeSort_perm m _).nodup_iff.2 hn
  refine (h1.and h2).imp fun ⟨a1, a2⟩ => ?_
  simp at a1
  omega
theorem flt_lt (m : List Int) (n : Nat) : (flt m n).Pairwise (· < ·) := by
  refine List.Pairwise.filter _ ?_
  rw [iota, List.pairwise_map]
  exact List.pairwise_lt_range.imp fun h => by omega
theorem flt_sort {m : List Int} {n : Nat} (hn : m.Nodup) (hr : ∀ x, x ∈ m → 0 ≤ x ∧ x < n) : flt m n = m.mergeSort fun x y => decide (x ≤ y) := by
  refine sorted_ext _ _ (flt_lt m n) (sort_lt hn) fun x => ?_
  rw [List.mem_mergeSort]
  simp only [flt, List.mem_filter, decide_eq_true_eq]
  refine ⟨fun h => h.2, fun h => ⟨?_, h⟩⟩
  have := hr x h
  rw [iota, List.mem_map]
  exact ⟨x.toNat, by rw [List.mem_range]; omega, by omega⟩

theorem smp_flt (d n k : Int) : flt ((shufOf d n).2.take (cl k (cn n).toNat).toNat) (cn n).toNat = smp d n k := by
  have hD := shufOf_dist d n
  exact flt_sort (hD.nodup.sublist (List.take_sublist _ _)) fun x hx => hD.mem (List.mem_of_mem_take hx)

theorem same_nil : CCall Try.prog 19 [.c (.sl 0 []), .c .nilsl] (.c (.bool true)) := ccall_run 60 (by kernel_rfl)
theorem same_slC (l : List Int) (n : Nat) (hn : l.length = n) (hlen : n ≤ 1000000) : CCall Try.prog 19 [.c (.sl n (intsC l)), .c (slC l)] (.c (.bool true)) := by
  subst hn
  by_cases h : l = []
  · subst h
    exact same_nil
  · rw [slC, if_neg h]
    exact same_ok l hlen

theorem drawsSamples_ok (d n k : Int) : CCall Try.prog 5 [.c (.int .u64 d), .c (.int .i64 n), .c (.int .i64 k)] (.c (.bool true)) := by
  refine ccall_intro Try.func5 Try.ntmps5 rfl (Nat.le_of_ble_eq_true rfl) (by simp [Closed.c]) ?_
  have hcl := cl_range k (cn n).toNat
  have hN := cn_range n
  have hs := same_slC (smp d n k) _ (smp_len d n k) (by omega)
  refine awp_seq ?_
  refine awp_reg _ (by kernel_rfl) rfl ?_
  refine ops_prim rfl (by simp (disch := omega) only [evalPrim, ↓ev_tmp, ↓ev_const, ↓put_at, ↓put_none, ↓reduceIte, Nat.reduceEqDiff, argT_zero, argT_succ, ofConst, ofValue]; try rfl) ?_
  refine ops_nil ?_
  dsimp only [Then, InBlock, ↓reduceIte]
  refine awp_seq ?_
  refine awp_reg _ (by kernel_rfl) rfl ?_
  iterate 3 refine ops_prim rfl (by simp (disch := omega) only [evalPrim, ↓ev_tmp, ↓ev_const, ↓put_at, ↓put_none, ↓reduceIte, Nat.reduceEqDiff, argT_zero, argT_succ]; try rfl) ?_
  refine ops_call rfl rfl (by simp (disch := omega) only [callOf, List.nil_append, List.append_nil, List.cons_append, List.map_cons, List.map_nil, ofConst, ofValue, evalPrim, ↓ev_tmp, ↓ev_const, ↓put_at, ↓put_none, ↓reduceIte, Nat.reduceEqDiff, argT_zero, argT_succ]; rfl) (by kernel_rfl) (by kernel_rfl) (sample_c _ _ _) ?_
  refine ops_prim rfl (by simp (disch := omega) only [evalPrim, ↓ev_tmp, ↓ev_const, ↓put_at, ↓put_none, ↓reduceIte, Nat.reduceEqDiff, argT_zero, argT_succ]; try rfl) ?_
  iterate 2 refine ops_prim rfl (by simp (disch := omega) only [evalPrim, ↓ev_tmp, ↓ev_const, ↓put_at, ↓put_none, ↓reduceIte, Nat.reduceEqDiff, argT_zero, argT_succ, tvExtract, List.getElem?_cons_zero, List.getElem?_cons_succ, Option.map_some, reduceCtorEq, if_true, if_false]; try rfl) ?_
  iterate 2 refine ops_prim rfl (by simp (disch := omega) only [evalPrim, ↓ev_tmp, ↓ev_const, ↓put_at, ↓put_none, ↓reduceIte, Nat.reduceEqDiff, argT_zero, argT_succ, ofConst, ofValue]; try rfl) ?_
  refine ops_nil ?_
  dsimp only [Then, InBlock, ↓reduceIte]
  refine awp_seq ?_
  refine awp_reg _ (by kernel_rfl) rfl ?_
  iterate 3 refine ops_prim rfl (by simp (disch := omega) only [evalPrim, ↓ev_tmp, ↓ev_const, ↓put_at, ↓put_none, ↓reduceIte, Nat.reduceEqDiff, argT_zero, argT_succ]; try rfl) ?_
  refine ops_call rfl rfl (by simp (disch := omega) only [callOf, List.nil_append, List.append_nil, List.cons_append, List.map_cons, List.map_nil, ofConst, ofValue, evalPrim, ↓ev_tmp, ↓ev_const, ↓put_at, ↓put_none, ↓reduceIte, Nat.reduceEqDiff, argT_zero, argT_succ]; rfl) (by kernel_rfl) (by kernel_rfl) (refsample_c _ _ _) ?_
  refine ops_prim rfl (by simp (disch := omega) only [evalPrim, ↓ev_tmp, ↓ev_const, ↓put_at, ↓put_none, ↓reduceIte, Nat.reduceEqDiff, argT_zero, argT_succ]; try rfl) ?_
  iterate 2 refine ops_prim rfl (by simp (disch := omega) only [evalPrim, ↓ev_tmp, ↓ev_const, ↓put_at, ↓put_none, ↓reduceIte, Nat.reduceEqDiff, argT_zero, argT_succ, tvExtract, List.getElem?_cons_zero, List.getElem?_cons_succ, Option.map_some, reduceCtorEq, if_true, if_false]; try rfl) ?_
  iterate 2 refine ops_prim rfl (by simp (disch := omega) only [evalPrim, ↓ev_tmp, ↓ev_const, ↓put_at, ↓put_none, ↓reduceIte, Nat.reduceEqDiff, argT_zero, argT_succ, ofConst, ofValue]; try rfl) ?_
  refine ops_nil ?_
  dsimp only [Then, InBlock, ↓reduceIte]
  rw [smp_flt]
  refine awp_seq ?_
  refine awp_reg _ (by kernel_rfl) rfl ?_
  iterate 2 refine ops_prim rfl (by simp (disch := omega) only [evalPrim, ↓ev_tmp, ↓ev_const, ↓put_at, ↓put_none, ↓reduceIte, Nat.reduceEqDiff, argT_zero, argT_succ, beq_self_eq_true]; try rfl) ?_
  refine ops_prim rfl (by simp (disch := omega) only [evalPrim, ↓ev_tmp, ↓ev_const, ↓put_at, ↓put_none, ↓reduceIte, Nat.reduceEqDiff, argT_zero, argT_succ, tvBinT, tvBinT.nil2, tvBinT.ptr2, tvBin, intBin, ofConst, ofValue, Option.map_some, reduceCtorEq, if_true, if_false, beq_self_eq_true]; try rfl) ?_
  refine ops_prim rfl (by simp (disch := omega) only [evalPrim, ↓ev_tmp, ↓ev_const, ↓put_at, ↓put_none, ↓reduceIte, Nat.reduceEqDiff, argT_zero, argT_succ, beq_self_eq_true]; try rfl) ?_
  refine ops_yes 28 rfl rfl (by simp (disch := omega) only [evalPrim, ↓ev_tmp, ↓ev_const, ↓put_at, ↓put_none, ↓reduceIte, Nat.reduceEqDiff, argT_zero, argT_succ, Option.map_some, reduceCtorEq, if_true, if_false, beq_self_eq_true, bne_self_eq_false, Bool.not_true, Bool.not_false]; try rfl) ?_
  refine ops_prim rfl (by simp (disch := omega) only [evalPrim, ↓ev_tmp, ↓ev_const, ↓put_at, ↓put_none, ↓reduceIte, Nat.reduceEqDiff, argT_zero, argT_succ, beq_self_eq_true]; try rfl) ?_
  refine ops_yes 28 rfl rfl (by simp (disch := omega) only [evalPrim, ↓ev_tmp, ↓ev_const, ↓put_at, ↓put_none, ↓reduceIte, Nat.reduceEqDiff, argT_zero, argT_succ, Option.map_some, reduceCtorEq, if_true, if_false, beq_self_eq_true, bne_self_eq_false, Bool.not_true, Bool.not_false]; try rfl) ?_
  refine ops_prim rfl (by simp (disch := omega) only [evalPrim, ↓ev_tmp, ↓ev_const, ↓put_at, ↓put_none, ↓reduceIte, Nat.reduceEqDiff, argT_zero, argT_succ, beq_self_eq_true]; try rfl) ?_
  refine ops_yes 28 rfl rfl (by simp (disch := omega) only [evalPrim, ↓ev_tmp, ↓ev_const, ↓put_at, ↓put_none, ↓reduceIte, Nat.reduceEqDiff, argT_zero, argT_succ, Option.map_some, reduceCtorEq, if_true, if_false, beq_self_eq_true, bne_self_eq_false, Bool.not_true, Bool.not_false]; try rfl) ?_
  refine ops_call rfl rfl (by simp (disch := omega) only [callOf, List.nil_append, List.append_nil, List.cons_append, List.map_cons, List.map_nil, ofConst, ofValue, evalPrim, ↓ev_tmp, ↓ev_const, ↓put_at, ↓put_none, ↓reduceIte, Nat.reduceEqDiff, argT_zero, argT_succ, beq_self_eq_true]; rfl) (by kernel_rfl) (by kernel_rfl) (hs) ?_
  refine ops_prim rfl (by simp (disch := omega) only [evalPrim, ↓ev_tmp, ↓ev_const, ↓put_at, ↓put_none, ↓reduceIte, Nat.reduceEqDiff, argT_zero, argT_succ, cond_true, cond_false, ofConst, ofValue, beq_self_eq_true]; try rfl) ?_
  refine ops_prim rfl (by simp (disch := omega) only [evalPrim, ↓ev_tmp, ↓ev_const, ↓put_at, ↓put_none, ↓reduceIte, Nat.reduceEqDiff, argT_zero, argT_succ, beq_self_eq_true]; try rfl) ?_
  refine ops_yes 33 rfl rfl (by simp (disch := omega) only [evalPrim, ↓ev_tmp, ↓ev_const, ↓put_at, ↓put_none, ↓reduceIte, Nat.reduceEqDiff, argT_zero, argT_succ, Option.map_some, reduceCtorEq, if_true, if_false, beq_self_eq_true, bne_self_eq_false, Bool.not_true, Bool.not_false]; try rfl) ?_
  refine ops_call rfl rfl (by simp (disch := omega) only [callOf, List.nil_append, List.append_nil, List.cons_append, List.map_cons, List.map_nil, ofConst, ofValue, evalPrim, ↓ev_tmp, ↓ev_const, ↓put_at, ↓put_none, ↓reduceIte, Nat.reduceEqDiff, argT_zero, argT_succ, beq_self_eq_true]; rfl) (by kernel_rfl) (by kernel_rfl) (awake_ok) ?_
  refine ops_prim rfl (by simp (disch := omega) only [evalPrim, ↓ev_tmp, ↓ev_const, ↓put_at, ↓put_none, ↓reduceIte, Nat.reduceEqDiff, argT_zero, argT_succ, cond_true, cond_false, ofConst, ofValue, beq_self_eq_true]; try rfl) ?_
  refine ops_prim rfl (by simp (disch := omega) only [evalPrim, ↓ev_tmp, ↓ev_const, ↓put_at, ↓put_none, ↓reduceIte, Nat.reduceEqDiff, argT_zero, argT_succ, ofConst, ofValue, beq_self_eq_true]; try rfl) ?_
  refine ops_nil ?_
  dsimp only [Then, InBlock, ↓reduceIte]
  refine awp_ret ?_
  exact ret_ok (vs := [.c (.bool true)]) rfl rfl
end Go.Sim
