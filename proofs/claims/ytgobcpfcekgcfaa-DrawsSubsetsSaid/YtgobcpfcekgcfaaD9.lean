/- A part of the proof: the walks of this law's functions. -/
import Derived.Test.YtgobcpfcekgcfaaD8
namespace Go.Sim
open Go Go.Proofs
set_option maxRecDepth 4000
set_option autoImplicit false
set_option linter.unusedSimpArgs false
set_option linter.unusedVariables false
theorem swap_get {l : List Int} {i j k : Nat} (hi : i < l.length) (hj : j < l.length) (hk : k < l.length) : (swap l i j).getD k 0 = if k = j then l.getD i 0 else if k = i then l.getD j 0 else l.getD k 0 := by
  unfold swap
  simp only [List.getD_eq_getElem?_getD, List.getElem?_set, List.length_set]
  by_cases e : k = j
  · subst e; simp [hj]
  · rw [if_neg (Ne.symm e), if_neg e]
    by_cases e2 : k = i
    · subst e2; simp [hi]
    · rw [if_neg (Ne.symm e2), if_neg e2]

/-- Different places hold different numbers, each of which is below n. -/
def Dist (l : List Int) (n : Nat) : Prop := l.length = n ∧ (∀ a b, a < n → b < n → l.getD a 0 = l.getD b 0 → a = b) ∧ ∀ a, a < n → 0 ≤ l.getD a 0 ∧ l.getD a 0 < n
theorem Dist.swap {l : List Int} {n i j : Nat} (h : Dist l n) (hi : i < n) (hj : j < n) : Dist (swap l i j) n := by
  obtain ⟨hl, h1, h2⟩ := h
  refine ⟨by rw [swap_len, hl], fun a b ha hb he => ?_, fun a ha => ?_⟩
  · rw [swap_get (by omega) (by omega) (by omega), swap_get (by omega) (by omega) (by omega)] at he
    by_cases a1 : a = j <;> by_cases a2 : a = i <;> by_cases b1 : b = j <;> by_cases b2 : b = i <;> simp only [a1, a2, b1, b2, if_true, if_false] at he <;> (try subst a1) <;> (try subst a2) <;> (try subst b1) <;> (try subst b2) <;> (try simp_all) <;>
      (first
        | (have := h1 _ _ (by assumption) (by assumption) he; omega)
        | omega)
  · rw [swap_get (by omega) (by omega) (by omega)]
    split
    · exact h2 i hi
    · split
      · exact h2 j hj
      · exact h2 a ha
theorem iota_get {n a : Nat} (h : a < n) : (iota n).getD a 0 = a := by
  simp [iota, List.getD_eq_getElem?_getD, h]
theorem dist_iota (n : Nat) : Dist (iota n) n := by
  refine ⟨by simp [iota], fun a b ha hb he => ?_, fun a ha => ?_⟩
  · rw [iota_get ha, iota_get hb] at he
    omega
  · rw [iota_get ha]
    omega
theorem dist_shuf : ∀ (i : Nat) (d : Int) (l : List Int) (n : Nat), Dist l n → i < n ∨ i = 0 → Dist (shuf i d l).2 n
  | 0, d, l, n, h, _ => h
  | i + 1, d, l, n, h, hi => by
    simp only [shuf]
    have hb := bk_range d ((i : Int) + 2) (by omega)
    exact dist_shuf i _ _ n (h.swap (by omega) (by omega)) (by omega)
theorem shuf_fst : ∀ (i : Nat) (d : Int) (l : List Int), (shuf i d l).1 = rep nx i d
  | 0, d, l => rfl
  | i + 1, d, l => by
    simp only [shuf, rep]
    exact shuf_fst i _ _
theorem shufOf_dist (d n : Int) : Dist (shufOf d n).2 (cn n).toNat := dist_shuf _ _ _ _ (dist_iota _) (by omega)
theorem shufOf_fst (d n : Int) (h : 0 ≤ n ∧ n ≤ 1000) : (shufOf d n).1 = sk d (n - 1) := by
  rw [shufOf, shuf_fst, sk]
  congr 1
  have e : cn n = n := by unfold cn mx mn; split <;> split <;> omega
  rw [e]
  omega
end Go.Sim
