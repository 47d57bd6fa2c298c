/- A part of the proof: the walks of this law's functions, and plain laws. -/
import Derived.Test.YtihdifmachfdbaaSimAO
import Derived.KernelRfl
import Derived.Test.YtihdifmachfdbaaProg
section
set_option autoImplicit false
set_option linter.unusedSimpArgs false
set_option linter.unusedVariables false
namespace Go.Sim

/-! ### numbers as lists of limbs: plain laws -/
def val : List Int → Int
  | [] => 0
  | x :: l => x + 4294967296 * val l
def Lim (l : List Int) : Prop := ∀ x ∈ l, 0 ≤ x ∧ x < 4294967296
def lim (n : Nat) : List Int := if h : n = 0 then [] else ((n % 4294967296 : Nat) : Int) :: lim (n / 4294967296)
decreasing_by omega
theorem lim_zero : lim 0 = [] := by rw [lim]; rfl
theorem lim_pos {n : Nat} (h : 0 < n) : lim n = ((n % 4294967296 : Nat) : Int) :: lim (n / 4294967296) := by
  rw [lim, dif_neg (by omega)]
theorem lim_nil {n : Nat} : lim n = [] ↔ n = 0 := by
  constructor
  · intro h
    rcases Nat.eq_zero_or_pos n with e | e
    · exact e
    · rw [lim_pos e] at h; cases h
  · rintro rfl; exact lim_zero
theorem Lim.nil : Lim [] := fun x h => by cases h
theorem Lim.cons {x : Int} {l : List Int} (h1 : 0 ≤ x ∧ x < 4294967296) (h2 : Lim l) : Lim (x :: l) := fun y hy => by
  rcases List.mem_cons.1 hy with rfl | hy
  · exact h1
  · exact h2 y hy
theorem Lim.head {x : Int} {l : List Int} (h : Lim (x :: l)) : 0 ≤ x ∧ x < 4294967296 := h x (by simp)
theorem Lim.tail {x : Int} {l : List Int} (h : Lim (x :: l)) : Lim l := fun y hy => h y (by simp [hy])
theorem Lim.app {a b : List Int} (h : Lim a) (k : Lim b) : Lim (a ++ b) := fun y hy => by
  rcases List.mem_append.1 hy with hy | hy
  · exact h y hy
  · exact k y hy
theorem Lim.take {a : List Int} (h : Lim a) (n : Nat) : Lim (a.take n) := fun y hy => h y (List.mem_of_mem_take hy)
theorem Lim.drop {a : List Int} (h : Lim a) (n : Nat) : Lim (a.drop n) := fun y hy => h y (List.mem_of_mem_drop hy)
theorem Lim.get {a : List Int} (h : Lim a) {i : Nat} : 0 ≤ a.getD i 0 ∧ a.getD i 0 < 4294967296 := by
  rcases Nat.lt_or_ge i a.length with hi | hi
  · rw [List.getD_eq_getElem?_getD, List.getElem?_eq_getElem hi]
    exact h _ (List.getElem_mem _)
  · rw [List.getD_eq_getElem?_getD, List.getElem?_eq_none hi]
    simp
theorem Lim.set {a : List Int} (h : Lim a) (i : Nat) {x : Int} (hx : 0 ≤ x ∧ x < 4294967296) : Lim (a.set i x) := fun y hy => by
  rcases List.mem_or_eq_of_mem_set hy with hy | rfl
  · exact h y hy
  · exact hx
theorem Lim.zeros (n : Nat) : Lim (List.replicate n 0) := fun y hy => by
  have := List.eq_of_mem_replicate hy
  omega
theorem lim_Lim (n : Nat) : Lim (lim n) := by
  induction n using Nat.strongRecOn with
  | _ n ih =>
    rcases Nat.eq_zero_or_pos n with rfl | e
    · rw [lim_zero]; exact .nil
    · rw [lim_pos e]
      exact .cons (by omega) (ih _ (by omega))
theorem val_lim (n : Nat) : val (lim n) = n := by
  induction n using Nat.strongRecOn with
  | _ n ih =>
    rcases Nat.eq_zero_or_pos n with rfl | e
    · rw [lim_zero]; rfl
    · rw [lim_pos e, val, ih _ (by omega)]
      omega
theorem val_nonneg : ∀ {l : List Int}, Lim l → 0 ≤ val l
  | [], _ => by simp [val]
  | x :: l, h => by
    have := val_nonneg h.tail
    have := h.head
    simp only [val]
    omega
/-- In normal form: the last limb is not 0. -/
def Nrm (l : List Int) : Prop := ∀ n, n + 1 = l.length → l.getD n 0 ≠ 0
theorem Nrm.tail {x : Int} {l : List Int} (h : Nrm (x :: l)) : Nrm l := fun n hn => by
  have := h (n + 1) (by simp; omega)
  simpa using this
theorem Nrm.pos : ∀ {l : List Int}, Lim l → Nrm l → l ≠ [] → 0 < val l
  | [], _, _, h => absurd rfl h
  | [x], h1, h2, _ => by
    have := h2 0 rfl
    have := h1.head
    simp [val] at *
    omega
  | x :: y :: l, h1, h2, _ => by
    have := Nrm.pos h1.tail h2.tail (by simp)
    have := h1.head
    rw [val]
    omega
theorem lim_of : ∀ {l : List Int}, Lim l → Nrm l → lim (val l).toNat = l
  | [], _, _ => lim_zero
  | x :: l, h1, h2 => by
    have hp := Nrm.pos h1 h2 (by simp)
    have hx := h1.head
    have hv := val_nonneg h1.tail
    rw [lim_pos (by omega)]
    have e1 : (val (x :: l)).toNat / 4294967296 = (val l).toNat := by rw [val]; omega
    have e2 : (((val (x :: l)).toNat % 4294967296 : Nat) : Int) = x := by rw [val]; omega
    rw [e1, e2, lim_of h1.tail h2.tail]
theorem lim_Nrm (n : Nat) : Nrm (lim n) := by
  induction n using Nat.strongRecOn with
  | _ n ih =>
    rcases Nat.eq_zero_or_pos n with rfl | e
    · rw [lim_zero]; intro k hk; simp at hk
    · rw [lim_pos e]
      intro k hk
      cases k with
      | zero =>
        have h0 : lim (n / 4294967296) = [] := List.eq_nil_of_length_eq_zero (by simpa using hk.symm)
        rw [lim_nil] at h0
        simp
        omega
      | succ k =>
        have := ih (n / 4294967296) (by omega) k (by simpa using hk)
        simpa using this
/-- How many limbs are left without the zeros at the end. -/
def tn (l : List Int) : Nat → Nat
  | 0 => 0
  | n + 1 => if l.getD n 0 = 0 then tn l n else n + 1
theorem tn_le (l : List Int) : ∀ n, tn l n ≤ n
  | 0 => by simp [tn]
  | n + 1 => by
    rw [tn]
    split
    · have := tn_le l n; omega
    · omega
theorem val_append : ∀ (a b : List Int), val (a ++ b) = val a + 4294967296 ^ a.length * val b
  | [], b => by simp [val]
  | x :: a, b => by
    simp only [List.cons_append, val, val_append a b, List.length_cons]
    grind
theorem val_zeros (n : Nat) : val (List.replicate n 0) = 0 := by
  induction n with
  | zero => rfl
  | succ n ih => simp [List.replicate_succ, val, ih]
theorem tn_nrm (l : List Int) : ∀ n, n ≤ l.length → Nrm (l.take (tn l n))
  | 0, _ => by intro k hk; simp [tn] at hk
  | n + 1, h => by
    rw [tn]
    split
    · exact tn_nrm l n (by omega)
    · rename_i hne
      intro k hk
      rw [List.length_take] at hk
      have : k = n := by omega
      subst this
      have : (l.take (k + 1)).getD k 0 = l.getD k 0 := by simp [List.getD_eq_getElem?_getD, List.getElem?_take]
      rw [this]
      exact hne
theorem take_snoc {l : List Int} {n : Nat} (h : n < l.length) : l.take (n + 1) = l.take n ++ [l.getD n 0] := by
  rw [List.take_add_one, List.getD_eq_getElem?_getD, List.getElem?_eq_getElem h]
  rfl
theorem tn_val (l : List Int) : ∀ n, n ≤ l.length → val (l.take (tn l n)) = val (l.take n)
  | 0, _ => rfl
  | n + 1, h => by
    rw [tn]
    split
    · rename_i e
      rw [tn_val l n (by omega), take_snoc (by omega), val_append, e]
      simp [val]
    · rfl
theorem tn_lim {l : List Int} {n : Nat} (h : Lim l) (hn : n ≤ l.length) : l.take (tn l n) = lim (val (l.take n)).toNat := by
  rw [← tn_val l n hn]
  exact (lim_of (h.take _) (tn_nrm l n hn)).symm
theorem tn_self {n : Nat} : tn (lim n) (lim n).length = (lim n).length := by
  cases h : (lim n).length with
  | zero => rfl
  | succ k =>
    rw [tn, if_neg]
    exact lim_Nrm n k h.symm

/-! comparing -/
theorem val_lt_len : ∀ {a b : List Int}, Lim a → Lim b → Nrm b → a.length < b.length → val a < val b
  | [], b, _, h2, h3, h => by
    have := Nrm.pos h2 h3 (fun e => by subst e; simp at h)
    simpa [val] using this
  | x :: a, [], _, _, _, h => by simp at h
  | x :: a, y :: b, h1, h2, h3, h => by
    have := val_lt_len h1.tail h2.tail h3.tail (by simpa using h)
    have := h1.head
    have := h2.head
    simp only [val]
    omega
theorem val_lt_at : ∀ {a b : List Int} {i : Nat}, Lim a → Lim b → i < b.length → a.drop (i + 1) = b.drop (i + 1) → a.getD i 0 < b.getD i 0 → val a < val b
  | [], y :: b, 0, h1, h2, hi, hd, h => by
    have := val_nonneg h2.tail
    simp only [val]
    simp at h
    omega
  | [], y :: b, i + 1, h1, h2, hi, hd, h => by
    have e : val [] < val b := val_lt_at (i := i) Lim.nil h2.tail (by simpa using hi) (by simpa using hd) (by simpa using h)
    have := h2.head
    simp only [val] at *
    omega
  | x :: a, y :: b, 0, h1, h2, hi, hd, h => by
    simp at hd h
    subst hd
    simp only [val]
    omega
  | x :: a, y :: b, i + 1, h1, h2, hi, hd, h => by
    have := val_lt_at (i := i) h1.tail h2.tail (by simpa using hi) (by simpa using hd) (by simpa using h)
    have := h1.head
    have := h2.head
    simp only [val]
    omega
theorem lim_inj {a b : Nat} (h : lim a = lim b) : a = b := by
  have h1 := val_lim a
  have h2 := val_lim b
  rw [h] at h1
  omega
theorem lim_len_le {a b : Nat} (h : a ≤ b) : (lim a).length ≤ (lim b).length := by
  rcases Nat.lt_or_ge (lim b).length (lim a).length with hl | hl
  · have := val_lt_len (lim_Lim b) (lim_Lim a) (lim_Nrm a) hl
    rw [val_lim, val_lim] at this
    omega
  · exact hl
def cmpI (a b : Nat) : Int := if a < b then -1 else if a = b then 0 else 1

theorem lim_eq {l : List Int} {n : Nat} (h1 : Lim l) (h2 : Nrm l) (h3 : val l = n) : l = lim n := by
  have := lim_of h1 h2
  rw [← this, h3]
  rfl
theorem getD_snoc {l : List Int} {x : Int} : (l ++ [x]).getD l.length 0 = x := by simp [List.getD_eq_getElem?_getD]
theorem Nrm.snoc {l : List Int} {x : Int} (h : x ≠ 0) : Nrm (l ++ [x]) := fun n hn => by
  have : n = l.length := by simp at hn; omega
  subst this
  rw [getD_snoc]; exact h
theorem val_snoc (l : List Int) (x : Int) : val (l ++ [x]) = val l + 4294967296 ^ l.length * x := by
  rw [val_append]; simp [val]
theorem Nrm.of_ge {l a : List Int} (h1 : Lim l) (h2 : Lim a) (h3 : Nrm a) (hl : l.length ≤ a.length) (hv : val a ≤ val l) : Nrm l := by
  intro n hn e
  have h4 : l = l.take n ++ [l.getD n 0] := by
    rw [← take_snoc (by omega), List.take_of_length_le (by omega)]
  have h5 : val l = val (l.take n) := by
    have h6 := congrArg val h4
    rw [e, val_snoc] at h6
    simpa using h6
  have h6 := val_lt_len (h1.take n) h2 h3 (by rw [List.length_take]; omega)
  omega
theorem val_drop {l : List Int} {i : Nat} (h : i < l.length) : val (l.drop i) = l.getD i 0 + 4294967296 * val (l.drop (i + 1)) := by
  rw [List.drop_eq_getElem_cons h, val, List.getD_eq_getElem?_getD, List.getElem?_eq_getElem h]
  rfl
theorem val_drop_ge {l : List Int} {i : Nat} (h : l.length ≤ i) : val (l.drop i) = 0 := by
  rw [List.drop_eq_nil_of_le h]; rfl
theorem val_drop0 (l : List Int) : val (l.drop 0) = val l := rfl
theorem val_set : ∀ {l : List Int} {i : Nat} (x : Int), i < l.length → val (l.set i x) = val l + 4294967296 ^ i * (x - l.getD i 0)
  | y :: l, 0, x, _ => by simp [val]; omega
  | y :: l, i + 1, x, h => by
    have := val_set (l := l) (i := i) x (by simpa using h)
    simp only [List.set_cons_succ, val, this, List.getD_cons_succ]
    grind
end Go.Sim
end
section
set_option autoImplicit false
set_option linter.unusedSimpArgs false
set_option linter.unusedVariables false
namespace Go.Sim

def pw (i : Nat) : Int := 4294967296 ^ i
theorem pw_zero : pw 0 = 1 := rfl
theorem pw_succ (i : Nat) : pw (i + 1) = 4294967296 * pw i := by unfold pw; rw [Int.pow_succ]; omega
theorem pw_pos (i : Nat) : 0 < pw i := Int.pow_pos (by decide)
theorem pw_add (i j : Nat) : pw (i + j) = pw i * pw j := Int.pow_add _ _ _
theorem val_app (a b : List Int) : val (a ++ b) = val a + pw a.length * val b := val_append a b
theorem val_one (x : Int) : val [x] = x := by simp [val]
theorem val_lt : ∀ {l : List Int}, Lim l → val l < pw l.length
  | [], _ => by simp [val, pw]
  | x :: l, h => by
    have h1 := val_lt h.tail
    have h2 := h.head
    rw [List.length_cons, pw_succ, val]
    omega
/-- The n lowest limbs of a number. -/
def padL : Nat → Nat → List Int
  | 0, _ => []
  | n + 1, v => ((v % 4294967296 : Nat) : Int) :: padL n (v / 4294967296)
theorem padL_len : ∀ (n v : Nat), (padL n v).length = n
  | 0, _ => rfl
  | n + 1, v => by simp [padL, padL_len n]
theorem padL_Lim : ∀ (n v : Nat), Lim (padL n v)
  | 0, _ => .nil
  | n + 1, v => .cons (by omega) (padL_Lim n _)
theorem padL_of : ∀ {l : List Int} {n v : Nat}, Lim l → l.length = n → val l = v → l = padL n v
  | [], n, v, _, hl, _ => by subst hl; rfl
  | x :: l, 0, v, _, hl, _ => by simp at hl
  | x :: l, n + 1, v, h, hl, hv => by
    have hx := h.head
    have hv0 := val_nonneg h.tail
    rw [val] at hv
    have h1 : val l = ((v / 4294967296 : Nat) : Int) := by omega
    have h2 : x = ((v % 4294967296 : Nat) : Int) := by omega
    rw [padL, ← padL_of h.tail (by simpa using hl) h1, h2]
theorem padL_val {n v : Nat} (h : (lim v).length ≤ n) : val (padL n v) = v := by
  induction n generalizing v with
  | zero =>
    have : lim v = [] := List.eq_nil_of_length_eq_zero (by omega)
    rw [lim_nil] at this
    subst this
    rfl
  | succ n ih =>
    have h2 : (lim (v / 4294967296)).length ≤ n := by
      rcases Nat.eq_zero_or_pos v with rfl | e
      · simp [lim_zero]
      · rw [lim_pos e] at h
        simpa using h
    rw [padL, val, ih h2]
    omega
theorem padL_take {n v : Nat} (h : (lim v).length ≤ n) : (padL n v).take (lim v).length = lim v := by
  induction n generalizing v with
  | zero =>
    have : lim v = [] := List.eq_nil_of_length_eq_zero (by omega)
    rw [this]; rfl
  | succ n ih =>
    rcases Nat.eq_zero_or_pos v with rfl | e
    · simp [lim_zero]
    · rw [lim_pos e] at h ⊢
      simp only [List.length_cons, padL, List.take_succ_cons]
      rw [ih (by simpa using h)]
theorem lim_take {l : List Int} {n v : Nat} (h : l.take n = lim v) (hn : n ≤ l.length) : (lim v).length = n := by
  rw [← h, List.length_take]; omega
theorem tn_take {l m : List Int} : ∀ {n : Nat}, l.take n = m.take n → tn l n = tn m n
  | 0, _ => rfl
  | n + 1, h => by
    have h1 : l.getD n 0 = m.getD n 0 := by
      have := congrArg (fun x => x.getD n 0) h
      simpa [List.getD_eq_getElem?_getD, List.getElem?_take] using this
    have h2 : l.take n = m.take n := by
      have := congrArg (fun x => x.take n) h
      simpa [List.take_take] using this
    rw [tn, tn, h1, tn_take h2]
theorem tn_of {l : List Int} {n v : Nat} (h : Lim l) (hn : n ≤ l.length) (hv : val (l.take n) = v) : tn l n = (lim v).length ∧ l.take (lim v).length = lim v := by
  have h1 := tn_lim h hn
  rw [hv] at h1
  have h2 : (l.take (tn l n)).length = tn l n := by
    have := tn_le l n
    rw [List.length_take]; omega
  have h3 : tn l n = (lim v).length := by rw [← h2, h1]; rfl
  rw [← h3]
  exact ⟨rfl, h1⟩
/-- How long the numbers are that are reckoned with. -/
def Sm (n : Nat) : Prop := (lim n).length ≤ 1000
theorem len_of : ∀ {k n : Nat}, n < 4294967296 ^ k → (lim n).length ≤ k
  | 0, n, h => by
    have : n = 0 := by simpa using h
    subst this
    simp [lim_zero]
  | k + 1, n, h => by
    rcases Nat.eq_zero_or_pos n with rfl | e
    · simp [lim_zero]
    · rw [lim_pos e, List.length_cons]
      have : n / 4294967296 < 4294967296 ^ k := Nat.div_lt_of_lt_mul (by rw [Nat.pow_succ, Nat.mul_comm] at h; exact h)
      have := len_of this
      omega
theorem len_lt {n : Nat} : n < 4294967296 ^ (lim n).length := by
  have h := val_lt (lim_Lim n)
  rw [val_lim] at h
  unfold pw at h
  exact Int.ofNat_lt.1 (by rw [Int.natCast_pow]; exact h)
theorem Sm.of {n : Nat} (h : n < 4294967296 ^ 1000) : Sm n := len_of h
theorem Sm.le {a b : Nat} (h : Sm b) (hab : a ≤ b) : Sm a := Nat.le_trans (lim_len_le hab) h
theorem sm_small {n : Nat} (h : n < 18446744073709551616) : (lim n).length ≤ 2 := len_of (k := 2) (by rw [show (4294967296 : Nat) ^ 2 = 18446744073709551616 by decide]; exact h)
theorem len_add (a b : Nat) : (lim (a + b)).length ≤ max (lim a).length (lim b).length + 1 := by
  refine len_of ?_
  have h1 := len_lt (n := a)
  have h2 := len_lt (n := b)
  have e : (4294967296 : Nat) ^ (max (lim a).length (lim b).length + 1) = 4294967296 * 4294967296 ^ max (lim a).length (lim b).length := by rw [Nat.pow_succ, Nat.mul_comm]
  have m1 : (4294967296 : Nat) ^ (lim a).length ≤ 4294967296 ^ max (lim a).length (lim b).length := Nat.pow_le_pow_right (by decide) (Nat.le_max_left _ _)
  have m2 : (4294967296 : Nat) ^ (lim b).length ≤ 4294967296 ^ max (lim a).length (lim b).length := Nat.pow_le_pow_right (by decide) (Nat.le_max_right _ _)
  rw [e]
  generalize (4294967296 : Nat) ^ max (lim a).length (lim b).length = p at *
  omega
theorem len_mul (a b : Nat) : (lim (a * b)).length ≤ (lim a).length + (lim b).length := by
  refine len_of ?_
  rw [Nat.pow_add]
  exact Nat.mul_lt_mul'' len_lt len_lt
theorem tn_step {l : List Int} {k : Nat} (h : 0 < k) (e : 0 < k ∧ l.getD (k - 1) 0 = 0) : tn l (k - 1) = tn l k := by
  obtain ⟨j, rfl⟩ : ∃ j, k = j + 1 := ⟨k - 1, by omega⟩
  have e2 : l.getD j 0 = 0 := e.2
  rw [Nat.add_sub_cancel, tn, if_pos e2]
theorem tn_stop {l : List Int} {k : Nat} (e : 0 < k → ¬ l.getD (k - 1) 0 = 0) : tn l k = k := by
  cases k with
  | zero => rfl
  | succ j =>
    have e2 : ¬ l.getD j 0 = 0 := e (by omega)
    rw [tn, if_neg e2]
end Go.Sim
end
section
set_option autoImplicit false
set_option linter.unusedSimpArgs false
set_option linter.unusedVariables false
namespace Go.Sim
open Go
theorem wr32 (n : Int) : IntKind.wrap .u32 n = n % 4294967296 := by simp [IntKind.wrap, IntKind.bits, IntKind.signed]
theorem of_lim (n : Nat) : Lim [IntKind.wrap .u32 (n : Int), IntKind.wrap .u32 ((n : Int) / 2 ^ 32)] ∧ (n < 18446744073709551616 → val [IntKind.wrap .u32 (n : Int), IntKind.wrap .u32 ((n : Int) / 2 ^ 32)] = n) := by
  have e : (2 : Int) ^ 32 = 4294967296 := by decide
  rw [wr32, wr32, e]
  refine ⟨.cons (by omega) (.cons (by omega) .nil), fun h => ?_⟩
  simp only [val]
  omega
theorem lt_of_len {a b : Nat} (h : (lim a).length < (lim b).length) : a < b := by
  rcases Nat.lt_or_ge a b with e | e
  · exact e
  · have := lim_len_le e; omega
theorem cmp_len_lt {a b : Nat} (h : (lim a).length < (lim b).length) : cmpI a b = -1 := by
  have := lt_of_len h
  unfold cmpI; rw [if_pos this]
theorem cmp_len_gt {a b : Nat} (h : (lim b).length < (lim a).length) : cmpI a b = 1 := by
  have := lt_of_len h
  unfold cmpI; rw [if_neg (by omega), if_neg (by omega)]
theorem cmp_eq {a b : Nat} (h : (lim a).drop 0 = (lim b).drop 0) : cmpI a b = 0 := by
  have := lim_inj (a := a) (b := b) h
  subst this
  unfold cmpI; rw [if_neg (by omega), if_pos rfl]
theorem cmp_same {a b : List Int} {i : Nat} (h1 : 0 < i) (h2 : i ≤ a.length ∧ i ≤ b.length) (hd : a.drop i = b.drop i) (h : a.getD (i - 1) 0 = b.getD (i - 1) 0) : a.drop (i - 1) = b.drop (i - 1) := by
  obtain ⟨j, rfl⟩ : ∃ j, i = j + 1 := ⟨i - 1, by omega⟩
  rw [Nat.add_sub_cancel] at h ⊢
  rw [List.drop_eq_getElem_cons (by omega), List.drop_eq_getElem_cons (i := j) (l := b) (by omega), hd]
  rw [List.getD_eq_getElem?_getD, List.getD_eq_getElem?_getD, List.getElem?_eq_getElem (by omega), List.getElem?_eq_getElem (by omega)] at h
  congr 1
theorem cmp_lt {a b i : Nat} (h1 : 0 < i) (h2 : i ≤ (lim a).length ∧ i ≤ (lim b).length) (hd : (lim a).drop i = (lim b).drop i) (h : (lim a).getD (i - 1) 0 < (lim b).getD (i - 1) 0) : cmpI a b = -1 := by
  have := val_lt_at (i := i - 1) (lim_Lim a) (lim_Lim b) (by omega) (by rw [Nat.sub_add_cancel (by omega)]; exact hd) h
  rw [val_lim, val_lim] at this
  unfold cmpI; rw [if_pos (by omega)]
theorem cmp_gt {a b i : Nat} (h1 : 0 < i) (h2 : i ≤ (lim a).length ∧ i ≤ (lim b).length) (hd : (lim a).drop i = (lim b).drop i) (h' : ¬ (lim a).getD (i - 1) 0 = (lim b).getD (i - 1) 0) (h : (lim b).getD (i - 1) 0 ≤ (lim a).getD (i - 1) 0) : cmpI a b = 1 := by
  have := val_lt_at (i := i - 1) (lim_Lim b) (lim_Lim a) (by omega) (by rw [Nat.sub_add_cancel (by omega)]; exact hd.symm) (by omega)
  rw [val_lim, val_lim] at this
  unfold cmpI; rw [if_neg (by omega), if_neg (by omega)]
end Go.Sim
end
section
set_option autoImplicit false
set_option linter.unusedSimpArgs false
set_option linter.unusedVariables false
namespace Go.Sim
open Go
theorem tnat_add (a b : Nat) : ((a : Int) + (b : Int)).toNat = a + b := by omega
theorem tnat_sub1 (k : Nat) : ((k : Int) - 1).toNat = k - 1 := by omega
theorem p32 : (2 : Int) ^ 32 = 4294967296 := by decide
theorem val_drop_any (l : List Int) (i : Nat) : val (l.drop i) = l.getD i 0 + 4294967296 * val (l.drop (i + 1)) := by
  rcases Nat.lt_or_ge i l.length with h | h
  · exact val_drop h
  · rw [val_drop_ge h, val_drop_ge (by omega), List.getD_eq_getElem?_getD, List.getElem?_eq_none h]
    simp
theorem val_snoc' (l : List Int) (x : Int) : val (l ++ [x]) = val l + pw l.length * x := by rw [val_app, val_one]
theorem getD_past {l : List Int} {i : Nat} (h : l.length ≤ i) : l.getD i 0 = 0 := by
  rw [List.getD_eq_getElem?_getD, List.getElem?_eq_none h]; rfl
theorem add_step {o X Y : List Int} {i : Nat} {c t s : Int} (hX : Lim X) (hY : Lim Y) (ho : Lim o) (hl : o.length = i) (hc : 0 ≤ c ∧ c ≤ 1) (ht : t = c + X.getD i 0 + Y.getD i 0)
    (hv : val o + pw i * (val (X.drop i) + val (Y.drop i) + c) = s) :
    (0 ≤ t / 2 ^ 32 ∧ t / 2 ^ 32 ≤ 1) ∧ Lim (o ++ [IntKind.wrap .u32 t]) ∧ val (o ++ [IntKind.wrap .u32 t]) + pw (i + 1) * (val (X.drop (i + 1)) + val (Y.drop (i + 1)) + t / 2 ^ 32) = s := by
  have hx := hX.get (i := i)
  have hy := hY.get (i := i)
  rw [p32, wr32]
  refine ⟨by omega, ho.app (.cons (by omega) .nil), ?_⟩
  rw [val_snoc', hl, pw_succ]
  rw [val_drop_any X, val_drop_any Y] at hv
  have hq : t = 4294967296 * (t / 4294967296) + t % 4294967296 := by omega
  generalize t / 4294967296 = q at *
  generalize t % 4294967296 = r at *
  subst hq
  have e : X.getD i 0 + 4294967296 * val (X.drop (i + 1)) + (Y.getD i 0 + 4294967296 * val (Y.drop (i + 1))) + c = 4294967296 * (val (X.drop (i + 1)) + val (Y.drop (i + 1)) + q) + r := by omega
  rw [e] at hv
  grind
theorem add_end {o X : List Int} {x y s : Nat} {i : Nat} {c : Int} (hx : X = lim x) (hs : x + y = s) (ho : Lim o) (hl : o.length = i) (hi : i = X.length) (hY : (lim y).length ≤ X.length) (hv : val o + pw i * (val (X.drop i) + val ((lim y).drop i) + c) = (s : Nat)) :
    (0 < c → c ≤ 1 → o ++ [IntKind.wrap .u32 c] = lim s) ∧ (c = 0 → o = lim s) := by
  rw [val_drop_ge (by omega), val_drop_ge (by omega)] at hv
  refine ⟨fun h1 h2 => ?_, fun h => ?_⟩
  · have e : c = 1 := by omega
    subst e
    refine lim_eq (ho.app (.cons (by decide) .nil)) (.snoc (by decide)) ?_
    rw [val_snoc', hl, ← hv]
    have : IntKind.wrap .u32 1 = 1 := by decide
    rw [this]
    omega
  · subst h
    have hv2 : val o = (s : Nat) := by rw [← hv]; simp
    refine lim_eq ho (.of_ge (a := X) ho (by rw [hx]; exact lim_Lim x) (by rw [hx]; exact lim_Nrm x) (by omega) ?_) hv2
    rw [hx, val_lim, hv2]
    omega

theorem mul32 {x y : Int} (hx : 0 ≤ x ∧ x < 4294967296) (hy : 0 ≤ y ∧ y < 4294967296) : 0 ≤ x * y ∧ x * y ≤ 18446744065119617025 := by
  refine ⟨Int.mul_nonneg hx.1 hy.1, ?_⟩
  have := Int.mul_le_mul (show x ≤ 4294967295 by omega) (show y ≤ 4294967295 by omega) hy.1 (by decide)
  omega
theorem val_take {l : List Int} {i : Nat} (h : i < l.length) : val (l.take (i + 1)) = val (l.take i) + pw i * l.getD i 0 := by
  rw [take_snoc h, val_snoc', List.length_take, Nat.min_eq_left (by omega)]
theorem val_set' {l : List Int} {i : Nat} (x : Int) (h : i < l.length) : val (l.set i x) = val l + pw i * (x - l.getD i 0) := val_set x h
theorem getD_setZ {l : List Int} {i j : Nat} {x : Int} (h : i < l.length) : (l.set i x).getD j 0 = if i = j then x else l.getD j 0 := by
  rw [List.getD_eq_getElem?_getD, List.getElem?_set]
  by_cases e : i = j
  · subst e; simp [h]
  · rw [if_neg e, if_neg e, List.getD_eq_getElem?_getD]
/-- Behind a place all is 0. -/
def Zer (o : List Int) (n : Nat) : Prop := ∀ j, n ≤ j → o.getD j 0 = 0
theorem Zer.set {o : List Int} {n i : Nat} {x : Int} (h : Zer o n) (hi : i < n) (hl : i < o.length) : Zer (o.set i x) n := fun j hj => by
  rw [getD_setZ hl, if_neg (by omega)]; exact h j hj
theorem mul_step {o B : List Int} {i k : Nat} {x c t s : Int} (hx : 0 ≤ x ∧ x < 4294967296) (hB : Lim B) (ho : Lim o) (hk : k < B.length) (hl : i + k < o.length) (hc : 0 ≤ c ∧ c < 4294967296) (ht : t = c + (x * B.getD k 0 + o.getD (i + k) 0))
    (hv : val o + pw (i + k) * c = s + pw i * (x * val (B.take k))) :
    (0 ≤ t / 2 ^ 32 ∧ t / 2 ^ 32 < 4294967296) ∧ Lim (o.set (i + k) (IntKind.wrap .u32 t)) ∧ val (o.set (i + k) (IntKind.wrap .u32 t)) + pw (i + k + 1) * (t / 2 ^ 32) = s + pw i * (x * val (B.take (k + 1))) := by
  have hy := hB.get (i := k)
  have ho' := ho.get (i := i + k)
  have hm := mul32 hx hy
  rw [p32, wr32]
  refine ⟨by omega, ho.set _ (by omega), ?_⟩
  rw [val_set' _ hl, pw_succ, val_take hk]
  have hq : t = 4294967296 * (t / 4294967296) + t % 4294967296 := by omega
  generalize t / 4294967296 = q at *
  generalize t % 4294967296 = r at *
  have e : r - o.getD (i + k) 0 = c + x * B.getD k 0 - 4294967296 * q := by omega
  rw [e]
  have ep := pw_add i k
  generalize o.getD (i + k) 0 = z at *
  grind
theorem mul_row {o B : List Int} {i : Nat} {x c s : Int} (ho : Lim o) (hz : Zer o (i + B.length)) (hl : i + B.length < o.length) (hc : 0 ≤ c ∧ c < 4294967296)
    (hv : val o + pw (i + B.length) * c = s + pw i * (x * val (B.take B.length))) :
    Lim (o.set (i + B.length) (IntKind.wrap .u32 c)) ∧ Zer (o.set (i + B.length) (IntKind.wrap .u32 c)) (i + 1 + B.length) ∧ val (o.set (i + B.length) (IntKind.wrap .u32 c)) = s + pw i * (x * val B) := by
  rw [wr32, Int.emod_eq_of_lt hc.1 hc.2]
  refine ⟨ho.set _ hc, fun j hj => ?_, ?_⟩
  · rw [getD_setZ hl, if_neg (by omega)]; exact hz j (by omega)
  · rw [List.take_length] at hv
    rw [val_set' _ hl, hz _ (Nat.le_refl _), Int.sub_zero]
    exact hv

theorem bits_or {k : IntKind} {m : Nat} {x y : Int} (hk : k = .u64 ∨ k = .u32) (hx : 0 ≤ x) (hy : 0 ≤ y ∧ y < 2 ^ m) (hb : x * 2 ^ m + y < 2 ^ k.bits) : bitsI .or k (x * 2 ^ m) y = x * 2 ^ m + y := by
  obtain ⟨a, rfl⟩ := Int.eq_ofNat_of_zero_le hx
  obtain ⟨b, rfl⟩ := Int.eq_ofNat_of_zero_le hy.1
  have hy2 : b < 2 ^ m := by
    have := hy.2
    have e : ((2 ^ m : Nat) : Int) = (2 : Int) ^ m := by rw [Int.natCast_pow]; rfl
    rw [← e] at this
    exact Int.ofNat_lt.1 this
  have e : (a : Int) * 2 ^ m = ((a * 2 ^ m : Nat) : Int) := by rw [Int.natCast_mul, Int.natCast_pow]; rfl
  rw [e] at hb ⊢
  have hb2 : a * 2 ^ m + b < 2 ^ k.bits := by
    have e3 : ((2 ^ k.bits : Nat) : Int) = (2 : Int) ^ k.bits := by rw [Int.natCast_pow]; rfl
    rw [← e3, ← Int.natCast_add] at hb
    exact Int.ofNat_lt.1 hb
  have ho : a * 2 ^ m ||| b = a * 2 ^ m + b := by
    have := Nat.two_pow_add_eq_or_of_lt hy2 a
    rw [Nat.mul_comm, this]
  simp only [bitsI, BitVec.toNat_or, BitVec.toNat_ofInt]
  have e1 : ((((a * 2 ^ m : Nat) : Int) % ((2 ^ k.bits : Nat) : Int)).toNat) = a * 2 ^ m := by
    rw [← Int.natCast_emod, Int.toNat_natCast, Nat.mod_eq_of_lt (by omega)]
  have e2 : (((b : Int) % ((2 ^ k.bits : Nat) : Int)).toNat) = b := by
    rw [← Int.natCast_emod, Int.toNat_natCast, Nat.mod_eq_of_lt (by omega)]
  rw [e1, e2, ho]
  have hw : ∀ n : Nat, n < 2 ^ k.bits → k.wrap (n : Int) = n := fun n hn => by
    rcases hk with rfl | rfl <;> simp [IntKind.wrap, IntKind.bits, IntKind.signed] at hn ⊢ <;> omega
  rw [hw _ hb2]
  omega
theorem or32 {x y : Int} (hx : 0 ≤ x ∧ x < 4294967296) (hy : 0 ≤ y ∧ y < 4294967296) : bitsI .or .u64 (x * 2 ^ 32) y = x * 4294967296 + y := by
  rw [bits_or (m := 32) (.inl rfl) hx.1 (by rw [p32]; exact hy) (by rw [p32, show (2 : Int) ^ IntKind.u64.bits = 18446744073709551616 by decide]; omega), p32]
theorem drop_set_past {l : List Int} {i j : Nat} {x : Int} (h : j < i) : (l.set j x).drop i = l.drop i := by
  rw [List.drop_set]
  simp [h]
theorem small_step {q A : List Int} {j : Nat} {d r : Int} (hq : Lim q) (hA : Lim A) (hj : j < q.length) (hd : 0 < d ∧ d < 4294967296) (hr : 0 ≤ r ∧ r < d) (hv : val (q.drop (j + 1)) * d + r = val (A.drop (j + 1))) :
    (0 ≤ (r * 4294967296 + A.getD j 0) / d ∧ (r * 4294967296 + A.getD j 0) / d < 4294967296) ∧ (0 ≤ (r * 4294967296 + A.getD j 0) % d ∧ (r * 4294967296 + A.getD j 0) % d < d) ∧ Lim (q.set j ((r * 4294967296 + A.getD j 0) / d)) ∧
    val ((q.set j ((r * 4294967296 + A.getD j 0) / d)).drop j) * d + (r * 4294967296 + A.getD j 0) % d = val (A.drop j) := by
  have ha := hA.get (i := j)
  have h0 : 0 ≤ (r * 4294967296 + A.getD j 0) / d := Int.ediv_nonneg (by omega) (by omega)
  have h1 : (r * 4294967296 + A.getD j 0) / d < 4294967296 := by
    refine Int.ediv_lt_of_lt_mul hd.1 ?_
    omega
  refine ⟨⟨h0, h1⟩, ⟨Int.emod_nonneg _ (by omega), Int.emod_lt_of_pos _ hd.1⟩, hq.set _ ⟨h0, h1⟩, ?_⟩
  rw [val_drop_any (q.set j _), val_drop_any A, getD_setZ hj, if_pos rfl, drop_set_past (by omega), ← hv]
  have := Int.mul_ediv_add_emod (r * 4294967296 + A.getD j 0) d
  generalize (r * 4294967296 + A.getD j 0) / d = Q at *
  generalize (r * 4294967296 + A.getD j 0) % d = R at *
  grind
end Go.Sim
namespace Go.Sim
theorem divmod_eq {a d : Nat} {q r : Int} (hd : 0 < d) (hr : 0 ≤ r ∧ r < d) (h : q * d + r = (a : Int)) : q = ((a / d : Nat) : Int) ∧ r = ((a % d : Nat) : Int) := by
  rw [Int.natCast_ediv, Int.natCast_emod, ← h]
  refine ⟨?_, ?_⟩
  · rw [Int.add_comm, Int.add_mul_ediv_right _ _ (by omega), Int.ediv_eq_zero_of_lt hr.1 hr.2]; omega
  · rw [Int.add_comm, Int.add_mul_emod_self_right, Int.emod_eq_of_lt hr.1 hr.2]
end Go.Sim
end
section
set_option autoImplicit false
set_option linter.unusedSimpArgs false
set_option linter.unusedVariables false
namespace Go.Sim
open Go
/-- How many bits a number has. -/
def bl (x : Nat) : Nat := if x = 0 then 0 else Nat.log2 x + 1
theorem bl_zero : bl 0 = 0 := rfl
theorem bl_lt (x : Nat) : x < 2 ^ bl x := by
  unfold bl
  split
  · rename_i e; subst e; decide
  · exact Nat.lt_log2_self
theorem bl_ge {x : Nat} (h : 0 < x) : 0 < bl x ∧ 2 ^ (bl x - 1) ≤ x := by
  unfold bl
  rw [if_neg (by omega)]
  exact ⟨by omega, by simpa using Nat.log2_self_le (by omega)⟩
theorem bl_eq {x k : Nat} (h1 : 2 ^ k ≤ x) (h2 : x < 2 ^ (k + 1)) : bl x = k + 1 := by
  have h0 : 0 < x := Nat.lt_of_lt_of_le (Nat.two_pow_pos k) h1
  obtain ⟨g1, g2⟩ := bl_ge h0
  have g3 := bl_lt x
  have a1 : k < bl x := (Nat.pow_lt_pow_iff_right (by decide : 1 < 2)).1 (Nat.lt_of_le_of_lt h1 g3)
  have a2 : bl x - 1 < k + 1 := (Nat.pow_lt_pow_iff_right (by decide : 1 < 2)).1 (Nat.lt_of_le_of_lt g2 h2)
  omega
theorem bl_div {x k : Nat} (h : 2 ^ k ≤ x) : bl x = k + bl (x / 2 ^ k) := by
  have h0 : 0 < x / 2 ^ k := Nat.div_pos h (Nat.two_pow_pos k)
  obtain ⟨g1, g2⟩ := bl_ge h0
  have g3 := bl_lt (x / 2 ^ k)
  obtain ⟨n, hn⟩ : ∃ n, bl (x / 2 ^ k) = n + 1 := ⟨bl (x / 2 ^ k) - 1, by omega⟩
  rw [hn] at g2 g3 ⊢
  rw [← Nat.add_assoc]
  refine bl_eq ?_ ?_
  · rw [Nat.pow_add]
    exact (Nat.mul_comm _ _) ▸ (Nat.le_div_iff_mul_le (Nat.two_pow_pos k)).1 g2
  · rw [show k + n + 1 = (n + 1) + k by omega, Nat.pow_add]
    exact (Nat.div_lt_iff_lt_mul (Nat.two_pow_pos k)).1 g3
theorem bl_small {x k : Nat} (h : x < 2 ^ k) : bl x ≤ k := by
  rcases Nat.eq_zero_or_pos x with rfl | h0
  · rw [bl_zero]; omega
  · have := (bl_ge h0).2
    have := (Nat.pow_lt_pow_iff_right (by decide : 1 < 2)).1 (Nat.lt_of_le_of_lt this h)
    omega
def tb8 : Array UInt8 := #[0, 1, 2, 2, 3, 3, 3, 3, 4, 4, 4, 4, 4, 4, 4, 4, 5, 5, 5, 5, 5, 5, 5, 5, 5, 5, 5, 5, 5, 5, 5, 5, 6, 6, 6, 6, 6, 6, 6, 6, 6, 6, 6, 6, 6, 6, 6, 6, 6, 6, 6, 6, 6, 6, 6, 6, 6, 6, 6, 6, 6, 6, 6, 6, 7, 7, 7, 7, 7, 7, 7, 7, 7, 7, 7, 7, 7, 7, 7, 7, 7, 7, 7, 7, 7, 7, 7, 7, 7, 7, 7, 7, 7, 7, 7, 7, 7, 7, 7, 7, 7, 7, 7, 7, 7, 7, 7, 7, 7, 7, 7, 7, 7, 7, 7, 7, 7, 7, 7, 7, 7, 7, 7, 7, 7, 7, 7, 7, 8, 8, 8, 8, 8, 8, 8, 8, 8, 8, 8, 8, 8, 8, 8, 8, 8, 8, 8, 8, 8, 8, 8, 8, 8, 8, 8, 8, 8, 8, 8, 8, 8, 8, 8, 8, 8, 8, 8, 8, 8, 8, 8, 8, 8, 8, 8, 8, 8, 8, 8, 8, 8, 8, 8, 8, 8, 8, 8, 8, 8, 8, 8, 8, 8, 8, 8, 8, 8, 8, 8, 8, 8, 8, 8, 8, 8, 8, 8, 8, 8, 8, 8, 8, 8, 8, 8, 8, 8, 8, 8, 8, 8, 8, 8, 8, 8, 8, 8, 8, 8, 8, 8, 8, 8, 8, 8, 8, 8, 8, 8, 8, 8, 8, 8, 8, 8, 8, 8, 8, 8, 8, 8, 8, 8, 8, 8, 8]
theorem tb8_ok : ∀ y : Fin 256, (tb8.getD y.val 0).toNat = bl y.val := by decide +kernel
theorem tb8_at {y : Int} (h0 : 0 ≤ y) (h1 : y < 256) : (((tb8.getD y.toNat 0).toNat : Nat) : Int) = (bl y.toNat : Nat) := by
  have := tb8_ok ⟨y.toNat, by omega⟩
  simp only at this
  rw [this]
/-- A limb of a number. -/
theorem limb_at : ∀ (l : List Int) (i v : Nat), Lim l → val l = v → l.getD i 0 = ((v / 4294967296 ^ i % 4294967296 : Nat) : Int)
  | [], i, v, _, h => by
    have : v = 0 := by simp [val] at h; omega
    subst this
    simp
  | x :: l, 0, v, hl, h => by
    have := hl.head
    simp only [val] at h
    simp
    omega
  | x :: l, i + 1, v, hl, h => by
    have h1 := hl.head
    have h2 := val_nonneg hl.tail
    simp only [val] at h
    have e : val l = ((v / 4294967296 : Nat) : Int) := by omega
    have := limb_at l i (v / 4294967296) hl.tail e
    rw [List.getD_cons_succ, this, Nat.div_div_eq_div_mul, Nat.pow_succ, Nat.mul_comm (4294967296 ^ i)]
theorem top_limb {n : Nat} (h : 0 < n) : (lim n).getD ((lim n).length - 1) 0 = ((n / 2 ^ (32 * ((lim n).length - 1)) : Nat) : Int) ∧ 2 ^ (32 * ((lim n).length - 1)) ≤ n := by
  have h1 := limb_at (lim n) ((lim n).length - 1) n (lim_Lim n) (val_lim n)
  have e : (4294967296 : Nat) ^ ((lim n).length - 1) = 2 ^ (32 * ((lim n).length - 1)) := by rw [Nat.pow_mul]
  have hne : lim n ≠ [] := fun e => by rw [lim_nil] at e; omega
  have hpos : 0 < (lim n).length := List.length_pos_iff.2 hne
  have h2 := lim_Nrm n ((lim n).length - 1) (by omega)
  have h3 := len_lt (n := n)
  have h4 : (4294967296 : Nat) ^ (lim n).length = 4294967296 ^ ((lim n).length - 1) * 4294967296 := by rw [← Nat.pow_succ]; congr 1; omega
  rw [h4] at h3
  have h5 : n / 4294967296 ^ ((lim n).length - 1) < 4294967296 := Nat.div_lt_of_lt_mul h3
  rw [Nat.mod_eq_of_lt h5, e] at h1
  refine ⟨h1, ?_⟩
  rw [h1] at h2
  rcases Nat.lt_or_ge n (2 ^ (32 * ((lim n).length - 1))) with hl | hl
  · rw [Nat.div_eq_of_lt hl] at h2; simp at h2
  · exact hl
theorem size_eq {n : Nat} (h : 0 < n) : (bl n : Nat) = 32 * ((lim n).length - 1) + bl (n / 2 ^ (32 * ((lim n).length - 1))) := bl_div (top_limb h).2
theorem bl_len (n : Nat) : bl n ≤ 32 * (lim n).length := by
  refine bl_small ?_
  rw [Nat.pow_mul]
  exact len_lt
/-- A bit of a number out of its limb. -/
theorem bit_at {l : List Int} {v : Nat} (j : Nat) (hl : Lim l) (h : val l = v) : (l.getD (j / 32) 0 / 2 ^ (j % 32)) % 2 = ((v / 2 ^ j % 2 : Nat) : Int) := by
  rw [limb_at l (j / 32) v hl h]
  have e1 : (4294967296 : Nat) ^ (j / 32) = 2 ^ (32 * (j / 32)) := by rw [Nat.pow_mul]
  have e2 : ((2 : Int) ^ (j % 32)) = ((2 ^ (j % 32) : Nat) : Int) := by rw [Int.natCast_pow]; rfl
  have hk : j % 32 < 32 := Nat.mod_lt _ (by decide)
  have e3 : (4294967296 : Nat) = 2 ^ (j % 32) * 2 ^ (32 - j % 32) := by rw [← Nat.pow_add, show j % 32 + (32 - j % 32) = 32 by omega]
  have e4 : v / 2 ^ (32 * (j / 32)) % 4294967296 / 2 ^ (j % 32) % 2 = v / 2 ^ j % 2 := by
    rw [e3, Nat.mod_mul_right_div_self, Nat.div_div_eq_div_mul, ← Nat.pow_add, Nat.div_add_mod]
    exact Nat.mod_mod_of_dvd _ (by
      refine ⟨2 ^ (31 - j % 32), ?_⟩
      rw [← Nat.pow_add_one', show 31 - j % 32 + 1 = 32 - j % 32 by omega])
  rw [e1, e2, ← e4]
  omega
theorem and1b {x : Int} (h : 0 ≤ x ∧ x < 4294967296) : bitsI .and .u32 x 1 = x % 2 := by
  obtain ⟨a, rfl⟩ := Int.eq_ofNat_of_zero_le h.1
  simp only [bitsI, BitVec.toNat_and, BitVec.toNat_ofInt]
  have e1 : ((a : Int) % ((2 ^ IntKind.u32.bits : Nat) : Int)).toNat = a := by
    rw [show ((2 ^ IntKind.u32.bits : Nat) : Int) = 4294967296 by decide]; omega
  have e2 : ((1 : Int) % ((2 ^ IntKind.u32.bits : Nat) : Int)).toNat = 1 := by decide
  rw [e1, e2, Nat.and_one_is_mod, wr32]
  omega
theorem or1 {x c : Int} (hx : 0 ≤ x ∧ x < 4294967296) (hc : 0 ≤ c ∧ c ≤ 1) : bitsI .or .u32 (IntKind.wrap .u32 (x * 2 ^ min (1 : Int).toNat IntKind.u32.bits)) c = (2 * x + c) % 4294967296 := by
  have e : (x * 2 ^ min (1 : Int).toNat IntKind.u32.bits) = x * 2 := rfl
  rw [e, wr32]
  have e2 : x * 2 % 4294967296 = (x % 2147483648) * 2 ^ 1 := by omega
  rw [e2, bits_or (.inr rfl) (by omega) (by omega) (by rw [show (2 : Int) ^ IntKind.u32.bits = 4294967296 by decide]; omega)]
  omega
/-- One round of the shift by one bit. -/
theorem shl_step {r r1 : List Int} {k m : Nat} {c s : Int} (hr : Lim r) (h1 : Lim r1) (hk : k < m) (hm : m ≤ r.length) (hl : r1.length = r.length) (hd : r1.drop k = r.drop k) (hc : 0 ≤ c ∧ c ≤ 1) (hv : val (r1.take k) + pw k * (c + 2 * val ((r.take m).drop k)) = s) :
    Lim (r1.set k ((2 * r.getD k 0 + c) % 4294967296)) ∧ (r1.set k ((2 * r.getD k 0 + c) % 4294967296)).drop (k + 1) = r.drop (k + 1) ∧ (0 ≤ r.getD k 0 / 2 ^ 31 ∧ r.getD k 0 / 2 ^ 31 ≤ 1) ∧
    val ((r1.set k ((2 * r.getD k 0 + c) % 4294967296)).take (k + 1)) + pw (k + 1) * (r.getD k 0 / 2 ^ 31 + 2 * val ((r.take m).drop (k + 1))) = s ∧ r1.getD k 0 = r.getD k 0 := by
  have hx := hr.get (i := k)
  have e31 : (2 : Int) ^ 31 = 2147483648 := by decide
  rw [e31]
  have hg : r1.getD k 0 = r.getD k 0 := by
    have a1 := List.getD_eq_getElem?_getD (l := r1) (i := k) (a := 0)
    have a2 := List.getD_eq_getElem?_getD (l := r) (i := k) (a := 0)
    have := congrArg (fun z => z[0]?) hd
    simp only [List.getElem?_drop, Nat.add_zero] at this
    rw [a1, a2, this]
  refine ⟨h1.set _ (by omega), ?_, by omega, ?_, hg⟩
  · rw [drop_set_past (by omega)]
    have := congrArg (fun z => z.drop 1) hd
    simpa [List.drop_drop] using this
  · have e1 : (r1.set k ((2 * r.getD k 0 + c) % 4294967296)).take (k + 1) = r1.take k ++ [(2 * r.getD k 0 + c) % 4294967296] := by
      rw [take_snoc (by simp; omega), getD_setZ (by omega), if_pos rfl]
      congr 1
      rw [List.take_set_of_le (Nat.le_refl _)]
    rw [e1, val_snoc', List.length_take, Nat.min_eq_left (by omega), pw_succ]
    rw [val_drop_any (r.take m) k] at hv
    have e2 : (r.take m).getD k 0 = r.getD k 0 := by
      rw [List.getD_eq_getElem?_getD, List.getElem?_take, if_pos hk, List.getD_eq_getElem?_getD]
    rw [e2] at hv
    have hq : 2 * r.getD k 0 + c = 4294967296 * (r.getD k 0 / 2147483648) + (2 * r.getD k 0 + c) % 4294967296 := by omega
    generalize r.getD k 0 / 2147483648 = q at *
    generalize (2 * r.getD k 0 + c) % 4294967296 = w at *
    have e3 : c + 2 * (r.getD k 0 + 4294967296 * val ((r.take m).drop (k + 1))) = 4294967296 * (q + 2 * val ((r.take m).drop (k + 1))) + w := by omega
    rw [e3] at hv
    grind
/-- One round of the subtraction. -/
theorem less_step {o X Y : List Int} {i : Nat} {c s t : Int} (hX : Lim X) (hY : Lim Y) (ho : Lim o) (hl : o.length = i) (hc : 0 ≤ c ∧ c ≤ 1) (ht : t = (X.getD i 0 - c - Y.getD i 0) % 18446744073709551616)
    (hv : val o + pw i * (val (X.drop i) - val (Y.drop i) - c) = s) :
    (0 ≤ t / 2 ^ 63 ∧ t / 2 ^ 63 ≤ 1) ∧ Lim (o ++ [IntKind.wrap .u32 t]) ∧ val (o ++ [IntKind.wrap .u32 t]) + pw (i + 1) * (val (X.drop (i + 1)) - val (Y.drop (i + 1)) - t / 2 ^ 63) = s := by
  have hx := hX.get (i := i)
  have hy := hY.get (i := i)
  have e63 : (2 : Int) ^ 63 = 9223372036854775808 := by decide
  rw [e63, wr32]
  refine ⟨by omega, ho.app (.cons (by omega) .nil), ?_⟩
  rw [val_snoc', hl, pw_succ]
  rw [val_drop_any X, val_drop_any Y] at hv
  have hq : X.getD i 0 - c - Y.getD i 0 = t % 4294967296 - 4294967296 * (t / 9223372036854775808) := by omega
  generalize t / 9223372036854775808 = q at *
  generalize t % 4294967296 = r at *
  have e : X.getD i 0 + 4294967296 * val (X.drop (i + 1)) - (Y.getD i 0 + 4294967296 * val (Y.drop (i + 1))) - c = 4294967296 * (val (X.drop (i + 1)) - val (Y.drop (i + 1)) - q) + r := by omega
  rw [e] at hv
  grind
theorem less_end {o X : List Int} {a b i : Nat} {c : Int} (hX : X = lim a) (hb : b ≤ a) (ho : Lim o) (hl : o.length = i) (hi : i = X.length) (hc : 0 ≤ c ∧ c ≤ 1) (hv : val o + pw i * (val (X.drop i) - val ((lim b).drop i) - c) = (a : Int) - b) : o = padL i (a - b) := by
  have hlb : (lim b).length ≤ X.length := by rw [hX]; exact lim_len_le hb
  rw [val_drop_ge (by omega), val_drop_ge (by omega)] at hv
  have h1 := val_lt ho
  rw [hl] at h1
  have h0 : c = 0 := by
    by_cases h : 0 < c
    · have : c = 1 := by omega
      subst this
      have : val o - pw i = (a : Int) - b := by rw [← hv]; omega
      omega
    · omega
  subst h0
  refine padL_of ho hl ?_
  have : val o = (a : Int) - b := by rw [← hv]; simp
  omega
theorem limb_mul {Q k : Nat} (hk : k < 32) : ∃ z, Q * 2 ^ (k + 1) % 4294967296 = z * 2 ^ (k + 1) ∧ z * 2 ^ (k + 1) + 2 ^ k < 4294967296 := by
  have e : (4294967296 : Nat) = 2 ^ (31 - k) * 2 ^ (k + 1) := by rw [← Nat.pow_add, show 31 - k + (k + 1) = 32 by omega]
  refine ⟨Q % 2 ^ (31 - k), ?_, ?_⟩
  · rw [e, Nat.mul_mod_mul_right]
  · have h1 : Q % 2 ^ (31 - k) < 2 ^ (31 - k) := Nat.mod_lt _ (Nat.two_pow_pos _)
    have h2 : (Q % 2 ^ (31 - k) + 1) * 2 ^ (k + 1) ≤ 2 ^ (31 - k) * 2 ^ (k + 1) := Nat.mul_le_mul_right _ h1
    have h3 : (2 : Nat) ^ k < 2 ^ (k + 1) := Nat.pow_lt_pow_right (by decide) (by omega)
    rw [Nat.add_mul, Nat.one_mul] at h2
    rw [← e] at h2
    omega
/-- A bit is set that was not set. -/
theorem setbit {q : List Int} {Q j : Nat} (hq : Lim q) (hj : j / 32 < q.length) (hv : val q = ((Q * 2 ^ (j + 1) : Nat) : Int)) :
    bitsI .or .u32 (q.getD (j / 32) 0) (1 * 2 ^ (j % 32)) = q.getD (j / 32) 0 + 2 ^ (j % 32) ∧ Lim (q.set (j / 32) (q.getD (j / 32) 0 + 2 ^ (j % 32))) ∧ val (q.set (j / 32) (q.getD (j / 32) 0 + 2 ^ (j % 32))) = (((2 * Q + 1) * 2 ^ j : Nat) : Int) := by
  have hk : j % 32 < 32 := Nat.mod_lt _ (by decide)
  have hg := limb_at q (j / 32) _ hq hv
  have e1 : (4294967296 : Nat) ^ (j / 32) = 2 ^ (32 * (j / 32)) := by rw [Nat.pow_mul]
  have e2 : Q * 2 ^ (j + 1) / 2 ^ (32 * (j / 32)) = Q * 2 ^ (j % 32 + 1) := by
    have : (2 : Nat) ^ (j + 1) = 2 ^ (j % 32 + 1) * 2 ^ (32 * (j / 32)) := by rw [← Nat.pow_add]; congr 1; omega
    rw [this, ← Nat.mul_assoc, Nat.mul_div_cancel _ (Nat.two_pow_pos _)]
  rw [e1, e2] at hg
  obtain ⟨z, hz1, hz2⟩ := limb_mul (Q := Q) hk
  rw [hz1] at hg
  have e3 : ((z * 2 ^ (j % 32 + 1) : Nat) : Int) = (z : Int) * 2 ^ (j % 32 + 1) := by rw [Int.natCast_mul, Int.natCast_pow]; rfl
  have e4 : ((2 ^ (j % 32) : Nat) : Int) = (2 : Int) ^ (j % 32) := by rw [Int.natCast_pow]; rfl
  have hlt : (2 : Int) ^ (j % 32) < 2 ^ (j % 32 + 1) := by
    rw [Int.pow_succ]
    have : (0 : Int) < 2 ^ (j % 32) := Int.pow_pos (by decide)
    omega
  have hpos : (0 : Int) < 2 ^ (j % 32) := Int.pow_pos (by decide)
  have hb : (z : Int) * 2 ^ (j % 32 + 1) + 2 ^ (j % 32) < 4294967296 := by rw [← e3, ← e4]; omega
  have h0 : 0 ≤ (z : Int) * 2 ^ (j % 32 + 1) := by rw [← e3]; omega
  have hr : 0 ≤ q.getD (j / 32) 0 + 2 ^ (j % 32) ∧ q.getD (j / 32) 0 + 2 ^ (j % 32) < 4294967296 := by rw [hg, e3]; omega
  refine ⟨?_, hq.set _ hr, ?_⟩
  · rw [Int.one_mul, hg, e3, bits_or (.inr rfl) (by omega) ⟨by omega, hlt⟩ (by rw [show (2 : Int) ^ IntKind.u32.bits = 4294967296 by decide]; exact hb)]
  · rw [val_set' _ hj, hv]
    have e5 : pw (j / 32) * (q.getD (j / 32) 0 + 2 ^ (j % 32) - q.getD (j / 32) 0) = ((2 ^ j : Nat) : Int) := by
      have : q.getD (j / 32) 0 + 2 ^ (j % 32) - q.getD (j / 32) 0 = 2 ^ (j % 32) := by omega
      rw [this]
      have e6 : pw (j / 32) = ((4294967296 ^ (j / 32) : Nat) : Int) := by unfold pw; rw [Int.natCast_pow]; rfl
      rw [e6, e1, ← e4, ← Int.natCast_mul, ← Nat.pow_add, Nat.div_add_mod]
    rw [e5, ← Int.natCast_add]
    congr 1
    rw [Nat.pow_succ, Nat.add_mul, Nat.one_mul]
    congr 1
    rw [Nat.mul_comm (2 ^ j) 2, ← Nat.mul_assoc, Nat.mul_comm Q 2]
theorem div_step {s b bit : Nat} (hb : 0 < b) (hbit : bit ≤ 1) :
    (b ≤ 2 * (s % b) + bit → (2 * s + bit) / b = 2 * (s / b) + 1 ∧ (2 * s + bit) % b = 2 * (s % b) + bit - b) ∧
    (2 * (s % b) + bit < b → (2 * s + bit) / b = 2 * (s / b) ∧ (2 * s + bit) % b = 2 * (s % b) + bit) := by
  have h1 := Nat.mod_lt s hb
  have h2 := Nat.div_add_mod s b
  refine ⟨fun h => ?_, fun h => ?_⟩
  · have e : 2 * s + bit = (2 * (s % b) + bit - b) + b * (2 * (s / b) + 1) := by
      have : b * (2 * (s / b) + 1) = 2 * (b * (s / b)) + b := by grind
      omega
    rw [e, Nat.add_mul_div_left _ _ hb, Nat.add_mul_mod_self_left, Nat.div_eq_of_lt (by omega), Nat.mod_eq_of_lt (by omega)]
    exact ⟨by omega, rfl⟩
  · have e : 2 * s + bit = (2 * (s % b) + bit) + b * (2 * (s / b)) := by
      have : b * (2 * (s / b)) = 2 * (b * (s / b)) := by grind
      omega
    rw [e, Nat.add_mul_div_left _ _ hb, Nat.add_mul_mod_self_left, Nat.div_eq_of_lt (by omega), Nat.mod_eq_of_lt (by omega)]
    exact ⟨by omega, rfl⟩
theorem shr_succ (a n : Nat) : a / 2 ^ n = 2 * (a / 2 ^ (n + 1)) + a / 2 ^ n % 2 := by
  rw [Nat.pow_succ, ← Nat.div_div_eq_div_mul]
  omega
end Go.Sim
namespace Go.Sim
open Go
theorem cg2 {α β γ : Type} (f : α → β → γ) {a a' : α} {b b' : β} (h : a = a') (k : b = b') : f a b = f a' b' := by rw [h, k]
theorem tnat_div32 (j : Nat) : ((j : Int) / 32).toNat = j / 32 := by omega
theorem tnat_mod32 (j : Nat) : ((j : Int) % 32).toNat = j % 32 := by omega
theorem one_limb {b : Nat} (h : (lim b).length = 1) : (lim b).getD 0 0 = b ∧ 0 < b ∧ b < 4294967296 := by
  have h0 : 0 < b := by
    rcases Nat.eq_zero_or_pos b with rfl | e
    · simp [lim_zero] at h
    · exact e
  have h1 := len_lt (n := b)
  rw [h, Nat.pow_one] at h1
  refine ⟨?_, h0, h1⟩
  rw [lim_pos h0, List.getD_cons_zero, Nat.mod_eq_of_lt h1]
theorem cmp_neg {a b : Nat} : cmpI a b < 0 ↔ a < b := by unfold cmpI; split <;> (try split) <;> omega
theorem cmp_nn {a b : Nat} : cmpI a b ≥ 0 ↔ b ≤ a := by unfold cmpI; split <;> (try split) <;> omega
theorem div_rng {x : Int} (k : Nat) (h : 0 ≤ x ∧ x < 4294967296) : 0 ≤ x / 2 ^ k ∧ x / 2 ^ k < 4294967296 := by
  have hp : (0 : Int) < 2 ^ k := Int.pow_pos (by decide)
  refine ⟨Int.ediv_nonneg h.1 (by omega), Int.lt_of_le_of_lt (Int.ediv_le_self _ h.1) h.2⟩
theorem wrap_less (x c y : Int) : IntKind.wrap .u64 (IntKind.wrap .u64 (x - c) - y) = (x - c - y) % 18446744073709551616 := by
  simp only [IntKind.wrap_u64]; omega
theorem set_mid {o l : List Int} {i : Nat} {w : Int} (h : o.length = i) (hi : i < l.length) : (o ++ l.drop i).set i w = (o ++ [w]) ++ l.drop (i + 1) := by
  subst h
  rw [List.set_append_right _ _ (Nat.le_refl _), Nat.sub_self, List.drop_eq_getElem_cons hi, List.set_cons_zero]
  simp
theorem getD_mid {o l : List Int} {i : Nat} (h : o.length = i) : (o ++ l.drop i).getD i 0 = l.getD i 0 := by
  subst h
  rw [List.getD_eq_getElem?_getD, List.getElem?_append_right (Nat.le_refl _), Nat.sub_self, List.getElem?_drop, Nat.add_zero, ← List.getD_eq_getElem?_getD]
theorem getD_take {l : List Int} {i n : Nat} (h : i < n) : (l.take n).getD i 0 = l.getD i 0 := by
  rw [List.getD_eq_getElem?_getD, List.getElem?_take, if_pos h, List.getD_eq_getElem?_getD]
theorem shl_end {r r1 : List Int} {m x bit : Nat} {c : Int} (h1 : Lim r1) (hm : m ≤ r1.length) (hr : r.take m = lim x) (hrl : m = (lim x).length) (hc : 0 ≤ c ∧ c ≤ 1) (hv : val (r1.take m) + pw m * (c + 2 * val ((r.take m).drop m)) = ((2 * x + bit : Nat) : Int)) :
    (0 < c → r1.take m ++ [c] = lim (2 * x + bit)) ∧ (c = 0 → r1.take m = lim (2 * x + bit)) := by
  have hln : (r1.take m).length = m := by rw [List.length_take]; omega
  rw [val_drop_ge (l := r.take m) (by rw [hr]; omega)] at hv
  refine ⟨fun h => ?_, fun h => ?_⟩
  · have e : c = 1 := by omega
    subst e
    refine lim_eq ((h1.take _).app (.cons (by decide) .nil)) (.snoc (by decide)) ?_
    rw [val_snoc', hln, ← hv]; omega
  · subst h
    have hv2 : val (r1.take m) = ((2 * x + bit : Nat) : Int) := by rw [← hv]; simp
    refine lim_eq (h1.take _) (.of_ge (a := lim x) (h1.take _) (lim_Lim x) (lim_Nrm x) (by omega) ?_) hv2
    rw [val_lim, hv2]; omega
theorem pow31 {k : Nat} (h : k < 32) : 0 < (2 : Int) ^ k ∧ (2 : Int) ^ k ≤ 2147483648 := by
  have e : ((2 ^ k : Nat) : Int) = (2 : Int) ^ k := by rw [Int.natCast_pow]; rfl
  have h1 : (2 : Nat) ^ k ≤ 2 ^ 31 := Nat.pow_le_pow_right (by decide) (by omega)
  have h2 := Nat.two_pow_pos k
  rw [← e]
  omega
end Go.Sim
namespace Go.Sim
theorem bl_d8 {x : Nat} (h : 256 ≤ x) : bl x = 8 + bl (x / 256) := bl_div (k := 8) h
theorem bl_d16 {x : Nat} (h : 65536 ≤ x) : bl x = 16 + bl (x / 65536) := bl_div (k := 16) h
theorem pos_len {a : Nat} (h : ¬ ((lim a).length : Int) = 0) : 0 < a := by
  rcases Nat.eq_zero_or_pos a with e | e
  · subst e; simp [lim_zero] at h
  · exact e
end Go.Sim
namespace Go.Sim
def sgn (a : Nat) : Int := if a = 0 then 0 else 1
theorem sgn_rng (a : Nat) : 0 ≤ sgn a ∧ sgn a ≤ 1 := by unfold sgn; split <;> omega
theorem cmp_rng (a b : Nat) : -1 ≤ cmpI a b ∧ cmpI a b ≤ 1 := by unfold cmpI; split <;> (try split) <;> omega
theorem sgn_cmp {a b : Nat} (h : sgn a = sgn b) : sgn a * cmpI a b = cmpI a b := by
  unfold sgn cmpI at *
  split at h <;> split at h <;> simp_all
theorem sgn_mul (a b : Nat) : -1 ≤ sgn a * cmpI a b ∧ sgn a * cmpI a b ≤ 1 := by
  have h1 := cmp_rng a b
  unfold sgn
  split
  · simp
  · simpa using h1
end Go.Sim
end
section
set_option autoImplicit false
set_option linter.unusedSimpArgs false
set_option linter.unusedVariables false
namespace Go.Sim
open Go
/-- The fraction in lowest terms; 0 if the denominator is 0. -/
def nmN (n d : Nat) : Nat := if n = 0 ∨ d = 0 then 0 else n / Nat.gcd n d
def nmD (n d : Nat) : Nat := if n = 0 ∨ d = 0 then 1 else d / Nat.gcd n d
theorem nmD_pos (n d : Nat) : 0 < nmD n d := by
  unfold nmD
  split
  · omega
  · rename_i h
    exact Nat.div_pos (Nat.gcd_le_right _ (by omega)) (Nat.gcd_pos_of_pos_left _ (by omega))
theorem nmN_le (n d : Nat) : nmN n d ≤ n := by
  unfold nmN
  split
  · omega
  · exact Nat.div_le_self _ _
theorem nmD_le (n d : Nat) (h : 0 < d) : nmD n d ≤ d := by
  unfold nmD
  split
  · omega
  · exact Nat.div_le_self _ _
theorem nm_val {n d : Nat} (h : 0 < d) : nmN n d * d = n * nmD n d := by
  unfold nmN nmD
  split
  · rename_i e
    have : n = 0 := by omega
    subst this; simp
  · have h1 := Nat.div_mul_cancel (Nat.gcd_dvd_left n d)
    have h2 := Nat.div_mul_cancel (Nat.gcd_dvd_right n d)
    generalize n / Nat.gcd n d = x at *
    generalize d / Nat.gcd n d = y at *
    generalize Nat.gcd n d = g at *
    rw [← h1, ← h2]
    grind
theorem nm_cop {n d : Nat} (h : 0 < d) : Nat.gcd (nmN n d) (nmD n d) = 1 := by
  unfold nmN nmD
  split
  · rfl
  · rename_i e
    rw [Nat.gcd_div (Nat.gcd_dvd_left n d) (Nat.gcd_dvd_right n d)]
    exact Nat.div_self (Nat.gcd_pos_of_pos_left _ (by omega))
theorem cop_eq {a b c d : Nat} (h1 : Nat.gcd a b = 1) (h2 : Nat.gcd c d = 1) (hb : 0 < b) (hd : 0 < d) (h : a * d = c * b) : a = c ∧ b = d := by
  have e1 : b ∣ d := by
    have : b ∣ a * d := by rw [h]; exact Nat.dvd_mul_left b c
    exact (Nat.Coprime.dvd_of_dvd_mul_left (by rw [Nat.Coprime, Nat.gcd_comm]; exact h1) this)
  have e2 : d ∣ b := by
    have : d ∣ c * b := by rw [← h]; exact Nat.dvd_mul_left d a
    exact (Nat.Coprime.dvd_of_dvd_mul_left (by rw [Nat.Coprime, Nat.gcd_comm]; exact h2) this)
  have e : b = d := Nat.dvd_antisymm e1 e2
  subst e
  exact ⟨Nat.eq_of_mul_eq_mul_right hb h, rfl⟩
theorem nm_eq {n d m e : Nat} (hd : 0 < d) (he : 0 < e) (h : n * e = m * d) : nmN n d = nmN m e ∧ nmD n d = nmD m e := by
  refine cop_eq (nm_cop hd) (nm_cop he) (nmD_pos _ _) (nmD_pos _ _) ?_
  have h1 := nm_val (n := n) hd
  have h2 := nm_val (n := m) he
  have hde : 0 < d * e := Nat.mul_pos hd he
  refine Nat.eq_of_mul_eq_mul_right hde ?_
  have a1 : nmN n d * nmD m e * (d * e) = (nmN n d * d) * (nmD m e * e) := by grind
  have a2 : nmN m e * nmD n d * (d * e) = (nmN m e * e) * (nmD n d * d) := by grind
  rw [a1, a2, h1, h2]
  grind
theorem nm_nm (n d : Nat) (hd : 0 < d) : nmN (nmN n d) (nmD n d) = nmN n d ∧ nmD (nmN n d) (nmD n d) = nmD n d := by
  obtain ⟨h1, h2⟩ := nm_eq (nmD_pos n d) hd (nm_val (n := n) hd)
  exact ⟨h1, h2⟩
theorem nm_cmp {n d m e : Nat} (hd : 0 < d) (he : 0 < e) : cmpI (nmN n d * nmD m e) (nmN m e * nmD n d) = cmpI (n * e) (m * d) := by
  have h1 := nm_val (n := n) hd
  have h2 := nm_val (n := m) he
  have p1 := nmD_pos n d
  have p2 := nmD_pos m e
  have hde : 0 < d * e := Nat.mul_pos hd he
  have hp : 0 < nmD n d * nmD m e := Nat.mul_pos p1 p2
  have a1 : nmN n d * nmD m e * (d * e) = (n * e) * (nmD n d * nmD m e) := by
    have : nmN n d * nmD m e * (d * e) = (nmN n d * d) * (nmD m e * e) := by grind
    rw [this, h1]; grind
  have a2 : nmN m e * nmD n d * (d * e) = (m * d) * (nmD n d * nmD m e) := by
    have : nmN m e * nmD n d * (d * e) = (nmN m e * e) * (nmD n d * d) := by grind
    rw [this, h2]; grind
  have l1 : nmN n d * nmD m e < nmN m e * nmD n d ↔ n * e < m * d := by
    rw [← Nat.mul_lt_mul_right hde, a1, a2, Nat.mul_lt_mul_right hp]
  have l2 : nmN n d * nmD m e = nmN m e * nmD n d ↔ n * e = m * d := by
    constructor
    · intro h
      refine Nat.eq_of_mul_eq_mul_right hp ?_
      rw [← a1, ← a2, h]
    · intro h
      refine Nat.eq_of_mul_eq_mul_right hde ?_
      rw [a1, a2, h]
  unfold cmpI
  simp only [l1, l2]
theorem nm_add {n d m e : Nat} (hd : 0 < d) (he : 0 < e) : nmN (nmN n d * nmD m e + nmN m e * nmD n d) (nmD n d * nmD m e) = nmN (n * e + m * d) (d * e) ∧ nmD (nmN n d * nmD m e + nmN m e * nmD n d) (nmD n d * nmD m e) = nmD (n * e + m * d) (d * e) := by
  have h1 := nm_val (n := n) hd
  have h2 := nm_val (n := m) he
  refine nm_eq (Nat.mul_pos (nmD_pos _ _) (nmD_pos _ _)) (Nat.mul_pos hd he) ?_
  have a1 : (nmN n d * nmD m e + nmN m e * nmD n d) * (d * e) = (nmN n d * d) * (nmD m e * e) + (nmN m e * e) * (nmD n d * d) := by grind
  rw [a1, h1, h2]
  grind
theorem nm_mul {n d m e : Nat} (hd : 0 < d) (he : 0 < e) : nmN (nmN n d * nmN m e) (nmD n d * nmD m e) = nmN (n * m) (d * e) ∧ nmD (nmN n d * nmN m e) (nmD n d * nmD m e) = nmD (n * m) (d * e) := by
  have h1 := nm_val (n := n) hd
  have h2 := nm_val (n := m) he
  refine nm_eq (Nat.mul_pos (nmD_pos _ _) (nmD_pos _ _)) (Nat.mul_pos hd he) ?_
  have a1 : (nmN n d * nmN m e) * (d * e) = (nmN n d * d) * (nmN m e * e) := by grind
  rw [a1, h1, h2]
  grind
/-- Numbers of at most 100 limbs. -/
def Md (n : Nat) : Prop := (lim n).length ≤ 100
theorem Md.sm {n : Nat} (h : Md n) : Sm n := Nat.le_trans h (by decide)
theorem Md.le {a b : Nat} (h : Md b) (hab : a ≤ b) : Md a := Nat.le_trans (lim_len_le hab) h
theorem Md.mul {a b : Nat} (ha : Md a) (hb : Md b) : (lim (a * b)).length ≤ 200 := by
  have := len_mul a b
  unfold Md at ha hb
  omega
theorem Md.muls {a b : Nat} (ha : Md a) (hb : Md b) : Sm (a * b) := Nat.le_trans (ha.mul hb) (by decide)
theorem Md.adds {a b c d : Nat} (ha : Md a) (hb : Md b) (hc : Md c) (hd : Md d) : Sm (a * b + c * d) := by
  have := len_add (a * b) (c * d)
  have := ha.mul hb
  have := hc.mul hd
  unfold Sm
  omega
theorem Md.small {n : Nat} (h : n < 18446744073709551616) : Md n := Nat.le_trans (sm_small h) (by decide)
theorem Md.nmN {n : Nat} (d : Nat) (h : Md n) : Md (nmN n d) := h.le (nmN_le n d)
theorem Md.nmD {d : Nat} (n : Nat) (h : Md d) (hd : 0 < d) : Md (nmD n d) := h.le (nmD_le n d hd)
end Go.Sim
end
section
set_option autoImplicit false
set_option linter.unusedSimpArgs false
set_option linter.unusedVariables false
namespace Go.Sim
open Go
/-- Binomial coefficients. -/
def ch : Nat → Nat → Nat
  | _, 0 => 1
  | 0, _ + 1 => 0
  | n + 1, k + 1 => ch n k + ch n (k + 1)
theorem ch_zero (n : Nat) : ch n 0 = 1 := by cases n <;> rfl
theorem ch_past : ∀ {n k : Nat}, n < k → ch n k = 0
  | 0, 0, h => by omega
  | 0, k + 1, _ => rfl
  | n + 1, 0, h => by omega
  | n + 1, k + 1, h => by rw [ch, ch_past (by omega), ch_past (by omega)]
theorem ch_self : ∀ n : Nat, ch n n = 1
  | 0 => rfl
  | n + 1 => by rw [ch, ch_self n, ch_past (by omega)]
theorem ch_pos : ∀ {n k : Nat}, k ≤ n → 0 < ch n k
  | n, 0, _ => by rw [ch_zero]; omega
  | 0, k + 1, h => by omega
  | n + 1, k + 1, h => by
    have := ch_pos (n := n) (k := k) (by omega)
    rw [ch]; omega
theorem ch_le : ∀ n k : Nat, ch n k ≤ 2 ^ n
  | n, 0 => by rw [ch_zero]; exact Nat.one_le_two_pow
  | 0, k + 1 => by simp [ch]
  | n + 1, k + 1 => by
    have h1 := ch_le n k
    have h2 := ch_le n (k + 1)
    rw [ch, Nat.pow_succ]; omega
theorem ch_mul : ∀ n k : Nat, (k + 1) * ch (n + 1) (k + 1) = (n + 1) * ch n k
  | 0, 0 => rfl
  | 0, k + 1 => by simp [ch]
  | n + 1, 0 => by
    have h1 := ch_mul n 0
    have e1 : ch (n + 1 + 1) (0 + 1) = ch (n + 1) 0 + ch (n + 1) (0 + 1) := rfl
    rw [ch_zero] at h1
    rw [e1, ch_zero]
    omega
  | n + 1, k + 1 => by
    have h1 := ch_mul n k
    have h2 := ch_mul n (k + 1)
    have e1 : ch (n + 1 + 1) (k + 1 + 1) = ch (n + 1) (k + 1) + ch (n + 1) (k + 1 + 1) := rfl
    have e2 : ch (n + 1) (k + 1) = ch n k + ch n (k + 1) := rfl
    rw [e1]
    have h3 : (k + 1 + 1) * (ch (n + 1) (k + 1) + ch (n + 1) (k + 1 + 1)) = (k + 1) * ch (n + 1) (k + 1) + ch (n + 1) (k + 1) + (k + 1 + 1) * ch (n + 1) (k + 1 + 1) := by grind
    rw [h3, h1, h2]
    rw [e2]
    grind
theorem ch_step (m j : Nat) : ch (m + j) j * (m + (j + 1)) / (j + 1) = ch (m + (j + 1)) (j + 1) := by
  have := ch_mul (m + j) j
  refine Nat.div_eq_of_eq_mul_left (by omega) ?_
  rw [← Nat.add_assoc, Nat.mul_comm, ← this, Nat.mul_comm]
theorem ch_sym : ∀ n k : Nat, k ≤ n → ch n (n - k) = ch n k
  | n, 0, _ => by rw [Nat.sub_zero, ch_self, ch_zero]
  | 0, k + 1, h => by omega
  | n + 1, k + 1, h => by
    rcases Nat.lt_or_ge k n with hl | hl
    · have e : n + 1 - (k + 1) = (n - (k + 1)) + 1 := by omega
      rw [e, ch, ch, ch_sym n (k + 1) (by omega), show n - (k + 1) + 1 = n - k by omega, ch_sym n k (by omega)]
      omega
    · have : k = n := by omega
      subst this
      rw [Nat.sub_self, ch_zero, ch_self]
theorem pow32 (k : Nat) : (4294967296 : Nat) ^ k = 2 ^ (32 * k) := by rw [Nat.pow_mul]
theorem len_pow {n k j : Nat} (h : n ≤ 2 ^ k) (hk : k < 32 * j) : (lim n).length ≤ j := by
  refine len_of ?_
  rw [pow32]
  exact Nat.lt_of_le_of_lt h (Nat.pow_lt_pow_right (by decide) hk)
theorem md_pow {n k : Nat} (h : n ≤ 2 ^ k) (hk : k < 3200) : Md n := len_pow h (by omega)
theorem ch_md {n k : Nat} (h : n ≤ 1000) : Md (ch n k) := md_pow (ch_le n k) (by omega)
/-- The coefficient as the program has it. -/
def chI (n k : Int) : Nat := if k < 0 ∨ k > n then 0 else ch n.toNat k.toNat
theorem chI_le (n k : Int) : chI n k ≤ 2 ^ n.toNat := by
  unfold chI
  split
  · exact Nat.zero_le _
  · exact ch_le _ _
theorem chI_md {n k : Int} (h : n ≤ 1000) : Md (chI n k) := md_pow (chI_le n k) (by omega)
end Go.Sim
end
section
set_option autoImplicit false
set_option maxRecDepth 4000
namespace Go.Sim
open Go Go.Proofs
def ti1 : TI := ⟨.fn, 1, [.cv .nilfn], 8⟩
theorem tc1 : checkT Try.prog 1 ti1 := ⟨by kernel_rfl, by kernel_rfl, by kernel_rfl, by kernel_rfl⟩
def ti2 : TI := ⟨.int .i64, 1, [.int .i64 0], 8⟩
theorem tc2 : checkT Try.prog 2 ti2 := ⟨by kernel_rfl, by kernel_rfl, by kernel_rfl, by kernel_rfl⟩
def ti3 : TI := ⟨.int .i64, 1, [.int .i64 0], 8⟩
theorem tc3 : checkT Try.prog 3 ti3 := ⟨by kernel_rfl, by kernel_rfl, by kernel_rfl, by kernel_rfl⟩
def ti4 : TI := ⟨.bool, 1, [.ff], 1⟩
theorem tc4 : checkT Try.prog 4 ti4 := ⟨by kernel_rfl, by kernel_rfl, by kernel_rfl, by kernel_rfl⟩
def ti5 : TI := ⟨.int .u8, 1, [.int .u8 0], 1⟩
theorem tc5 : checkT Try.prog 5 ti5 := ⟨by kernel_rfl, by kernel_rfl, by kernel_rfl, by kernel_rfl⟩
def ti9 : TI := ⟨.str, 1, [.str ByteArray.empty], 16⟩
theorem tc9 : checkT Try.prog 9 ti9 := ⟨by kernel_rfl, by kernel_rfl, by kernel_rfl, by kernel_rfl⟩
def ti23 : TI := ⟨.struct [(3, 0), (3, 1)], 2, [.int .i64 0, .int .i64 0], 16⟩
theorem tc23 : checkT Try.prog 23 ti23 := ⟨by kernel_rfl, by kernel_rfl, by kernel_rfl, by kernel_rfl⟩
def ti24 : TI := ⟨.int .i64, 1, [.int .i64 0], 8⟩
theorem tc24 : checkT Try.prog 24 ti24 := ⟨by kernel_rfl, by kernel_rfl, by kernel_rfl, by kernel_rfl⟩
def ti31 : TI := ⟨.struct [(3, 0), (3, 1), (3, 2)], 3, [.int .i64 0, .int .i64 0, .int .i64 0], 24⟩
theorem tc31 : checkT Try.prog 31 ti31 := ⟨by kernel_rfl, by kernel_rfl, by kernel_rfl, by kernel_rfl⟩
def ti34 : TI := ⟨.slice 80, 1, [.cv .nilsl], 24⟩
theorem tc34 : checkT Try.prog 34 ti34 := ⟨by kernel_rfl, by kernel_rfl, by kernel_rfl, by kernel_rfl⟩
def ti36 : TI := ⟨.struct [(4, 0), (34, 1)], 2, [.ff, .cv .nilsl], 32⟩
theorem tc36 : checkT Try.prog 36 ti36 := ⟨by kernel_rfl, by kernel_rfl, by kernel_rfl, by kernel_rfl⟩
def ti38 : TI := ⟨.struct [(36, 0), (34, 2)], 3, [.ff, .cv .nilsl, .cv .nilsl], 56⟩
theorem tc38 : checkT Try.prog 38 ti38 := ⟨by kernel_rfl, by kernel_rfl, by kernel_rfl, by kernel_rfl⟩
def ti44 : TI := ⟨.int .u64, 1, [.int .u64 0], 8⟩
theorem tc44 : checkT Try.prog 44 ti44 := ⟨by kernel_rfl, by kernel_rfl, by kernel_rfl, by kernel_rfl⟩
def ti45 : TI := ⟨.int .u64, 1, [.int .u64 0], 8⟩
theorem tc45 : checkT Try.prog 45 ti45 := ⟨by kernel_rfl, by kernel_rfl, by kernel_rfl, by kernel_rfl⟩
def ti46 : TI := ⟨.slice 3, 1, [.cv .nilsl], 24⟩
theorem tc46 : checkT Try.prog 46 ti46 := ⟨by kernel_rfl, by kernel_rfl, by kernel_rfl, by kernel_rfl⟩
def ti53 : TI := ⟨.int .u64, 1, [.int .u64 0], 8⟩
theorem tc53 : checkT Try.prog 53 ti53 := ⟨by kernel_rfl, by kernel_rfl, by kernel_rfl, by kernel_rfl⟩
def ti80 : TI := ⟨.int .u32, 1, [.int .u32 0], 4⟩
theorem tc80 : checkT Try.prog 80 ti80 := ⟨by kernel_rfl, by kernel_rfl, by kernel_rfl, by kernel_rfl⟩
def ti95 : TI := ⟨.slice 5, 1, [.cv .nilsl], 24⟩
theorem tc95 : checkT Try.prog 95 ti95 := ⟨by kernel_rfl, by kernel_rfl, by kernel_rfl, by kernel_rfl⟩
def ti106 : TI := ⟨.int .i64, 1, [.int .i64 0], 8⟩
theorem tc106 : checkT Try.prog 106 ti106 := ⟨by kernel_rfl, by kernel_rfl, by kernel_rfl, by kernel_rfl⟩
def ti117 : TI := ⟨.struct [(44, 0), (44, 1)], 2, [.int .u64 0, .int .u64 0], 16⟩
theorem tc117 : checkT Try.prog 117 ti117 := ⟨by kernel_rfl, by kernel_rfl, by kernel_rfl, by kernel_rfl⟩
def ti120 : TI := ⟨.int .u64, 1, [.int .u64 0], 8⟩
theorem tc120 : checkT Try.prog 120 ti120 := ⟨by kernel_rfl, by kernel_rfl, by kernel_rfl, by kernel_rfl⟩
def ti124 : TI := ⟨.ptr 3, 1, [.cv .nilptr], 8⟩
theorem tc124 : checkT Try.prog 124 ti124 := ⟨by kernel_rfl, by kernel_rfl, by kernel_rfl, by kernel_rfl⟩
def ti127 : TI := ⟨.ptr 120, 1, [.cv .nilptr], 8⟩
theorem tc127 : checkT Try.prog 127 ti127 := ⟨by kernel_rfl, by kernel_rfl, by kernel_rfl, by kernel_rfl⟩
def tab : Tab := [(1, ti1), (2, ti2), (3, ti3), (4, ti4), (5, ti5), (9, ti9), (23, ti23), (24, ti24), (31, ti31), (34, ti34), (36, ti36), (38, ti38), (44, ti44), (45, ti45), (46, ti46), (53, ti53), (80, ti80), (95, ti95), (106, ti106), (117, ti117), (120, ti120), (124, ti124), (127, ti127)]
theorem tabok : TabOK Try.prog tab := tabOK_cons tc1 (tabOK_cons tc2 (tabOK_cons tc3 (tabOK_cons tc4 (tabOK_cons tc5 (tabOK_cons tc9 (tabOK_cons tc23 (tabOK_cons tc24 (tabOK_cons tc31 (tabOK_cons tc34 (tabOK_cons tc36 (tabOK_cons tc38 (tabOK_cons tc44 (tabOK_cons tc45 (tabOK_cons tc46 (tabOK_cons tc53 (tabOK_cons tc80 (tabOK_cons tc95 (tabOK_cons tc106 (tabOK_cons tc117 (tabOK_cons tc120 (tabOK_cons tc124 (tabOK_cons tc127 (tabOK_nil)))))))))))))))))))))))
end Go.Sim
end
section
namespace Go.Sim
open Go Go.Proofs
set_option maxRecDepth 10000
set_option autoImplicit false
set_option linter.unusedSimpArgs false
set_option linter.unusedVariables false
abbrev TI64 : Ty := .i .i64
abbrev TU32 : Ty := .i .u32
abbrev planV (n c : Int) : SV := .agg [.int .i64 n, .int .i64 c]
abbrev ratV (s : Bool) (m d : List Int) : SV := .agg [.bool s, .row TU32 m, .row TU32 d]
def checkS (n c lot : Int) : Int := if n < 1 ∨ n > lot ∨ lot > 200 ∨ c < 0 ∨ c ≥ n then 3 else 0
theorem check_ok (n c lot : Int) : CS Try.prog 14 [planV n c, .int .i64 lot] (.int .i64 (checkS n c lot)) := by
  refine fn_c [4] Try.func14 Try.ntmps14 rfl rfl rfl rfl ?_
  refine aw_seq ?_
  refine aw_reg _ (by kernel_rfl) rfl ?_
  iterate 2 refine st (m := false) tabok rfl rfl rfl (by (repeat' apply And.intro); all_goals first | exact True.intro | rfl | omega | (simp only [inr]; omega) | (simp only [IntKind.bits]; omega) | exact fun h => h | (intro hq; rw [hq]; rfl) | (simp only [Int.toNat_natCast, dflt_i, dflt_b, dflt_l, dflt_p, Int.toNat_zero, gt_iff_lt, ge_iff_le]; omega) | (simp only [ti3, ti4, ti23]; omega) | (simp [ti3, ti4, ti23]; omega) | (simp_all; done) | (simp [SV.cellsL, SV.cells]; done) | (simp [SV.cellsL, SV.cells]; omega)) ?_
  refine ops_nil ?_
  refine aw_seq ?_
  refine aw_seq ?_
  refine aw_reg _ (by kernel_rfl) rfl ?_
  iterate 4 refine st (m := false) tabok rfl rfl rfl (by (repeat' apply And.intro); all_goals first | exact True.intro | rfl | omega | (simp only [inr]; omega) | (simp only [IntKind.bits]; omega) | exact fun h => h | (intro hq; rw [hq]; rfl) | (simp only [Int.toNat_natCast, dflt_i, dflt_b, dflt_l, dflt_p, Int.toNat_zero, gt_iff_lt, ge_iff_le]; omega) | (simp only [ti3, ti4, ti23]; omega) | (simp [ti3, ti4, ti23]; omega) | (simp_all; done) | (simp [SV.cellsL, SV.cells]; done) | (simp [SV.cellsL, SV.cells]; omega)) ?_
  iterate 4 refine stg (m := false) tabok rfl rfl rfl rfl rfl (by intro hg; have hg0 := hg; (try simp only [Bool.or_eq_true, Bool.and_eq_true, Bool.not_eq_true', Bool.not_eq_false', Bool.or_eq_false_iff, Bool.and_eq_false_imp, decide_eq_true_eq, decide_eq_false_iff_not, Bool.not_true, Bool.not_false, beq_iff_eq, Bool.not_eq_true, Bool.not_eq_false, Bool.true_eq_false, Bool.false_eq_true, not_or, Decidable.not_not, ne_eq] at hg); (try simp only [Int.toNat_natCast, dflt_i, dflt_b, dflt_l, dflt_p, Int.toNat_zero, gt_iff_lt, ge_iff_le] at hg); (repeat' apply And.intro); all_goals first | exact hg0 | exact True.intro | rfl | omega | (simp only [inr]; omega) | (simp only [IntKind.bits]; omega) | (simp only [Bool.or_eq_true, Bool.and_eq_true, Bool.not_eq_true', Bool.not_eq_false', Bool.or_eq_false_iff, Bool.and_eq_false_imp, decide_eq_true_eq, decide_eq_false_iff_not, Bool.not_true, Bool.not_false, beq_iff_eq, Bool.not_eq_true, Bool.not_eq_false, Bool.true_eq_false, Bool.false_eq_true, not_or, Decidable.not_not, ne_eq]; omega) | (simp only [inr, Int.toNat_natCast, dflt_i, dflt_b, dflt_l, dflt_p, Int.toNat_zero, gt_iff_lt, ge_iff_le]; omega) | (simp only [Int.toNat_natCast, dflt_i, dflt_b, dflt_l, dflt_p, Int.toNat_zero, gt_iff_lt, ge_iff_le]; omega) | (simp only [Bool.or_eq_true, Bool.and_eq_true, Bool.not_eq_true', Bool.not_eq_false', Bool.or_eq_false_iff, Bool.and_eq_false_imp, decide_eq_true_eq, decide_eq_false_iff_not, Bool.not_true, Bool.not_false, beq_iff_eq, Bool.not_eq_true, Bool.not_eq_false, Bool.true_eq_false, Bool.false_eq_true, not_or, Decidable.not_not, ne_eq] at hg0 ⊢; simp_all; done) | (simp_all; done) | (simp_all; omega)) ?_
  iterate 2 refine st (m := false) tabok rfl rfl rfl (by (repeat' apply And.intro); all_goals first | exact True.intro | rfl | omega | (simp only [inr]; omega) | (simp only [IntKind.bits]; omega) | exact fun h => h | (intro hq; rw [hq]; rfl) | (simp only [Int.toNat_natCast, dflt_i, dflt_b, dflt_l, dflt_p, Int.toNat_zero, gt_iff_lt, ge_iff_le]; omega) | (simp only [ti3, ti4, ti23]; omega) | (simp [ti3, ti4, ti23]; omega) | (simp_all; done) | (simp [SV.cellsL, SV.cells]; done) | (simp [SV.cellsL, SV.cells]; omega)) ?_
  iterate 2 refine stg (m := false) tabok rfl rfl rfl rfl rfl (by intro hg; have hg0 := hg; (try simp only [Bool.or_eq_true, Bool.and_eq_true, Bool.not_eq_true', Bool.not_eq_false', Bool.or_eq_false_iff, Bool.and_eq_false_imp, decide_eq_true_eq, decide_eq_false_iff_not, Bool.not_true, Bool.not_false, beq_iff_eq, Bool.not_eq_true, Bool.not_eq_false, Bool.true_eq_false, Bool.false_eq_true, not_or, Decidable.not_not, ne_eq] at hg); (try simp only [Int.toNat_natCast, dflt_i, dflt_b, dflt_l, dflt_p, Int.toNat_zero, gt_iff_lt, ge_iff_le] at hg); (repeat' apply And.intro); all_goals first | exact hg0 | exact True.intro | rfl | omega | (simp only [inr]; omega) | (simp only [IntKind.bits]; omega) | (simp only [Bool.or_eq_true, Bool.and_eq_true, Bool.not_eq_true', Bool.not_eq_false', Bool.or_eq_false_iff, Bool.and_eq_false_imp, decide_eq_true_eq, decide_eq_false_iff_not, Bool.not_true, Bool.not_false, beq_iff_eq, Bool.not_eq_true, Bool.not_eq_false, Bool.true_eq_false, Bool.false_eq_true, not_or, Decidable.not_not, ne_eq]; omega) | (simp only [inr, Int.toNat_natCast, dflt_i, dflt_b, dflt_l, dflt_p, Int.toNat_zero, gt_iff_lt, ge_iff_le]; omega) | (simp only [Int.toNat_natCast, dflt_i, dflt_b, dflt_l, dflt_p, Int.toNat_zero, gt_iff_lt, ge_iff_le]; omega) | (simp only [Bool.or_eq_true, Bool.and_eq_true, Bool.not_eq_true', Bool.not_eq_false', Bool.or_eq_false_iff, Bool.and_eq_false_imp, decide_eq_true_eq, decide_eq_false_iff_not, Bool.not_true, Bool.not_false, beq_iff_eq, Bool.not_eq_true, Bool.not_eq_false, Bool.true_eq_false, Bool.false_eq_true, not_or, Decidable.not_not, ne_eq] at hg0 ⊢; simp_all; done) | (simp_all; done) | (simp_all; omega)) ?_
  iterate 2 refine st (m := false) tabok rfl rfl rfl (by (repeat' apply And.intro); all_goals first | exact True.intro | rfl | omega | (simp only [inr]; omega) | (simp only [IntKind.bits]; omega) | exact fun h => h | (intro hq; rw [hq]; rfl) | (simp only [Int.toNat_natCast, dflt_i, dflt_b, dflt_l, dflt_p, Int.toNat_zero, gt_iff_lt, ge_iff_le]; omega) | (simp only [ti3, ti4, ti23]; omega) | (simp [ti3, ti4, ti23]; omega) | (simp_all; done) | (simp [SV.cellsL, SV.cells]; done) | (simp [SV.cellsL, SV.cells]; omega)) ?_
  iterate 3 refine stg (m := false) tabok rfl rfl rfl rfl rfl (by intro hg; have hg0 := hg; (try simp only [Bool.or_eq_true, Bool.and_eq_true, Bool.not_eq_true', Bool.not_eq_false', Bool.or_eq_false_iff, Bool.and_eq_false_imp, decide_eq_true_eq, decide_eq_false_iff_not, Bool.not_true, Bool.not_false, beq_iff_eq, Bool.not_eq_true, Bool.not_eq_false, Bool.true_eq_false, Bool.false_eq_true, not_or, Decidable.not_not, ne_eq] at hg); (try simp only [Int.toNat_natCast, dflt_i, dflt_b, dflt_l, dflt_p, Int.toNat_zero, gt_iff_lt, ge_iff_le] at hg); (repeat' apply And.intro); all_goals first | exact hg0 | exact True.intro | rfl | omega | (simp only [inr]; omega) | (simp only [IntKind.bits]; omega) | (simp only [Bool.or_eq_true, Bool.and_eq_true, Bool.not_eq_true', Bool.not_eq_false', Bool.or_eq_false_iff, Bool.and_eq_false_imp, decide_eq_true_eq, decide_eq_false_iff_not, Bool.not_true, Bool.not_false, beq_iff_eq, Bool.not_eq_true, Bool.not_eq_false, Bool.true_eq_false, Bool.false_eq_true, not_or, Decidable.not_not, ne_eq]; omega) | (simp only [inr, Int.toNat_natCast, dflt_i, dflt_b, dflt_l, dflt_p, Int.toNat_zero, gt_iff_lt, ge_iff_le]; omega) | (simp only [Int.toNat_natCast, dflt_i, dflt_b, dflt_l, dflt_p, Int.toNat_zero, gt_iff_lt, ge_iff_le]; omega) | (simp only [Bool.or_eq_true, Bool.and_eq_true, Bool.not_eq_true', Bool.not_eq_false', Bool.or_eq_false_iff, Bool.and_eq_false_imp, decide_eq_true_eq, decide_eq_false_iff_not, Bool.not_true, Bool.not_false, beq_iff_eq, Bool.not_eq_true, Bool.not_eq_false, Bool.true_eq_false, Bool.false_eq_true, not_or, Decidable.not_not, ne_eq] at hg0 ⊢; simp_all; done) | (simp_all; done) | (simp_all; omega)) ?_
  iterate 2 refine st (m := false) tabok rfl rfl rfl (by (repeat' apply And.intro); all_goals first | exact True.intro | rfl | omega | (simp only [inr]; omega) | (simp only [IntKind.bits]; omega) | exact fun h => h | (intro hq; rw [hq]; rfl) | (simp only [Int.toNat_natCast, dflt_i, dflt_b, dflt_l, dflt_p, Int.toNat_zero, gt_iff_lt, ge_iff_le]; omega) | (simp only [ti3, ti4, ti23]; omega) | (simp [ti3, ti4, ti23]; omega) | (simp_all; done) | (simp [SV.cellsL, SV.cells]; done) | (simp [SV.cellsL, SV.cells]; omega)) ?_
  iterate 5 refine stg (m := false) tabok rfl rfl rfl rfl rfl (by intro hg; have hg0 := hg; (try simp only [Bool.or_eq_true, Bool.and_eq_true, Bool.not_eq_true', Bool.not_eq_false', Bool.or_eq_false_iff, Bool.and_eq_false_imp, decide_eq_true_eq, decide_eq_false_iff_not, Bool.not_true, Bool.not_false, beq_iff_eq, Bool.not_eq_true, Bool.not_eq_false, Bool.true_eq_false, Bool.false_eq_true, not_or, Decidable.not_not, ne_eq] at hg); (try simp only [Int.toNat_natCast, dflt_i, dflt_b, dflt_l, dflt_p, Int.toNat_zero, gt_iff_lt, ge_iff_le] at hg); (repeat' apply And.intro); all_goals first | exact hg0 | exact True.intro | rfl | omega | (simp only [inr]; omega) | (simp only [IntKind.bits]; omega) | (simp only [Bool.or_eq_true, Bool.and_eq_true, Bool.not_eq_true', Bool.not_eq_false', Bool.or_eq_false_iff, Bool.and_eq_false_imp, decide_eq_true_eq, decide_eq_false_iff_not, Bool.not_true, Bool.not_false, beq_iff_eq, Bool.not_eq_true, Bool.not_eq_false, Bool.true_eq_false, Bool.false_eq_true, not_or, Decidable.not_not, ne_eq]; omega) | (simp only [inr, Int.toNat_natCast, dflt_i, dflt_b, dflt_l, dflt_p, Int.toNat_zero, gt_iff_lt, ge_iff_le]; omega) | (simp only [Int.toNat_natCast, dflt_i, dflt_b, dflt_l, dflt_p, Int.toNat_zero, gt_iff_lt, ge_iff_le]; omega) | (simp only [Bool.or_eq_true, Bool.and_eq_true, Bool.not_eq_true', Bool.not_eq_false', Bool.or_eq_false_iff, Bool.and_eq_false_imp, decide_eq_true_eq, decide_eq_false_iff_not, Bool.not_true, Bool.not_false, beq_iff_eq, Bool.not_eq_true, Bool.not_eq_false, Bool.true_eq_false, Bool.false_eq_true, not_or, Decidable.not_not, ne_eq] at hg0 ⊢; simp_all; done) | (simp_all; done) | (simp_all; omega)) ?_
  refine st (m := false) tabok rfl rfl rfl (by (repeat' apply And.intro); all_goals first | exact True.intro | rfl | omega | (simp only [inr]; omega) | (simp only [IntKind.bits]; omega) | exact fun h => h | (intro hq; rw [hq]; rfl) | (simp only [Int.toNat_natCast, dflt_i, dflt_b, dflt_l, dflt_p, Int.toNat_zero, gt_iff_lt, ge_iff_le]; omega) | (simp only [ti3, ti4, ti23]; omega) | (simp [ti3, ti4, ti23]; omega) | (simp_all; done) | (simp [SV.cellsL, SV.cells]; done) | (simp [SV.cellsL, SV.cells]; omega)) ?_
  refine ops_nil ?_
  refine aw_if rfl (fun c1 => ?_) (fun c1 => ?_)
  · try simp only [Bool.or_eq_true, Bool.and_eq_true, Bool.not_eq_true', Bool.not_eq_false', Bool.or_eq_false_iff, Bool.and_eq_false_imp, decide_eq_true_eq, decide_eq_false_iff_not, Bool.not_true, Bool.not_false, beq_iff_eq, Bool.not_eq_true, Bool.not_eq_false, Bool.true_eq_false, Bool.false_eq_true, not_or, Decidable.not_not, ne_eq] at c1
    try simp only [Int.toNat_natCast, dflt_i, dflt_b, dflt_l, dflt_p, Int.toNat_zero, gt_iff_lt, ge_iff_le] at c1
    refine aw_seq ?_
    refine aw_reg _ (by kernel_rfl) rfl ?_
    refine st (m := false) tabok rfl rfl rfl (by (repeat' apply And.intro); all_goals first | exact True.intro | rfl | omega | (simp only [inr]; omega) | (simp only [IntKind.bits]; omega) | exact fun h => h | (intro hq; rw [hq]; rfl) | (simp only [Int.toNat_natCast, dflt_i, dflt_b, dflt_l, dflt_p, Int.toNat_zero, gt_iff_lt, ge_iff_le]; omega) | (simp only [ti3, ti4, ti23]; omega) | (simp [ti3, ti4, ti23]; omega) | (simp_all; done) | (simp [SV.cellsL, SV.cells]; done) | (simp [SV.cellsL, SV.cells]; omega)) ?_
    refine ops_nil ?_
    refine aw_ret ?_
    -- leaf ret.1t
    refine ret_c ?_
    exact fs_int (by unfold checkS; rw [if_pos (by omega)])
  · try simp only [Bool.or_eq_true, Bool.and_eq_true, Bool.not_eq_true', Bool.not_eq_false', Bool.or_eq_false_iff, Bool.and_eq_false_imp, decide_eq_true_eq, decide_eq_false_iff_not, Bool.not_true, Bool.not_false, beq_iff_eq, Bool.not_eq_true, Bool.not_eq_false, Bool.true_eq_false, Bool.false_eq_true, not_or, Decidable.not_not, ne_eq] at c1
    try simp only [Int.toNat_natCast, dflt_i, dflt_b, dflt_l, dflt_p, Int.toNat_zero, gt_iff_lt, ge_iff_le] at c1
    refine aw_skip ?_
    refine aw_seq ?_
    refine aw_reg _ (by kernel_rfl) rfl ?_
    refine st (m := false) tabok rfl rfl rfl (by (repeat' apply And.intro); all_goals first | exact True.intro | rfl | omega | (simp only [inr]; omega) | (simp only [IntKind.bits]; omega) | exact fun h => h | (intro hq; rw [hq]; rfl) | (simp only [Int.toNat_natCast, dflt_i, dflt_b, dflt_l, dflt_p, Int.toNat_zero, gt_iff_lt, ge_iff_le]; omega) | (simp only [ti3, ti4, ti23]; omega) | (simp [ti3, ti4, ti23]; omega) | (simp_all; done) | (simp [SV.cellsL, SV.cells]; done) | (simp [SV.cellsL, SV.cells]; omega)) ?_
    refine ops_nil ?_
    refine aw_ret ?_
    -- leaf ret.1f
    refine ret_c ?_
    exact fs_int (by unfold checkS; rw [if_neg (by omega)])
theorem rcheck_ok (n c lot : Int) : CS Try.prog 15 [planV n c, .int .i64 lot] (.int .i64 (checkS n c lot)) := by
  refine fn_c [4] Try.func15 Try.ntmps15 rfl rfl rfl rfl ?_
  refine aw_seq ?_
  refine aw_reg _ (by kernel_rfl) rfl ?_
  iterate 2 refine st (m := false) tabok rfl rfl rfl (by (repeat' apply And.intro); all_goals first | exact True.intro | rfl | omega | (simp only [inr]; omega) | (simp only [IntKind.bits]; omega) | exact fun h => h | (intro hq; rw [hq]; rfl) | (simp only [Int.toNat_natCast, dflt_i, dflt_b, dflt_l, dflt_p, Int.toNat_zero, gt_iff_lt, ge_iff_le]; omega) | (simp only [ti3, ti4, ti23]; omega) | (simp [ti3, ti4, ti23]; omega) | (simp_all; done) | (simp [SV.cellsL, SV.cells]; done) | (simp [SV.cellsL, SV.cells]; omega)) ?_
  refine ops_nil ?_
  refine aw_seq ?_
  refine aw_seq ?_
  refine aw_reg _ (by kernel_rfl) rfl ?_
  iterate 4 refine st (m := false) tabok rfl rfl rfl (by (repeat' apply And.intro); all_goals first | exact True.intro | rfl | omega | (simp only [inr]; omega) | (simp only [IntKind.bits]; omega) | exact fun h => h | (intro hq; rw [hq]; rfl) | (simp only [Int.toNat_natCast, dflt_i, dflt_b, dflt_l, dflt_p, Int.toNat_zero, gt_iff_lt, ge_iff_le]; omega) | (simp only [ti3, ti4, ti23]; omega) | (simp [ti3, ti4, ti23]; omega) | (simp_all; done) | (simp [SV.cellsL, SV.cells]; done) | (simp [SV.cellsL, SV.cells]; omega)) ?_
  iterate 4 refine stg (m := false) tabok rfl rfl rfl rfl rfl (by intro hg; have hg0 := hg; (try simp only [Bool.or_eq_true, Bool.and_eq_true, Bool.not_eq_true', Bool.not_eq_false', Bool.or_eq_false_iff, Bool.and_eq_false_imp, decide_eq_true_eq, decide_eq_false_iff_not, Bool.not_true, Bool.not_false, beq_iff_eq, Bool.not_eq_true, Bool.not_eq_false, Bool.true_eq_false, Bool.false_eq_true, not_or, Decidable.not_not, ne_eq] at hg); (try simp only [Int.toNat_natCast, dflt_i, dflt_b, dflt_l, dflt_p, Int.toNat_zero, gt_iff_lt, ge_iff_le] at hg); (repeat' apply And.intro); all_goals first | exact hg0 | exact True.intro | rfl | omega | (simp only [inr]; omega) | (simp only [IntKind.bits]; omega) | (simp only [Bool.or_eq_true, Bool.and_eq_true, Bool.not_eq_true', Bool.not_eq_false', Bool.or_eq_false_iff, Bool.and_eq_false_imp, decide_eq_true_eq, decide_eq_false_iff_not, Bool.not_true, Bool.not_false, beq_iff_eq, Bool.not_eq_true, Bool.not_eq_false, Bool.true_eq_false, Bool.false_eq_true, not_or, Decidable.not_not, ne_eq]; omega) | (simp only [inr, Int.toNat_natCast, dflt_i, dflt_b, dflt_l, dflt_p, Int.toNat_zero, gt_iff_lt, ge_iff_le]; omega) | (simp only [Int.toNat_natCast, dflt_i, dflt_b, dflt_l, dflt_p, Int.toNat_zero, gt_iff_lt, ge_iff_le]; omega) | (simp only [Bool.or_eq_true, Bool.and_eq_true, Bool.not_eq_true', Bool.not_eq_false', Bool.or_eq_false_iff, Bool.and_eq_false_imp, decide_eq_true_eq, decide_eq_false_iff_not, Bool.not_true, Bool.not_false, beq_iff_eq, Bool.not_eq_true, Bool.not_eq_false, Bool.true_eq_false, Bool.false_eq_true, not_or, Decidable.not_not, ne_eq] at hg0 ⊢; simp_all; done) | (simp_all; done) | (simp_all; omega)) ?_
  iterate 2 refine st (m := false) tabok rfl rfl rfl (by (repeat' apply And.intro); all_goals first | exact True.intro | rfl | omega | (simp only [inr]; omega) | (simp only [IntKind.bits]; omega) | exact fun h => h | (intro hq; rw [hq]; rfl) | (simp only [Int.toNat_natCast, dflt_i, dflt_b, dflt_l, dflt_p, Int.toNat_zero, gt_iff_lt, ge_iff_le]; omega) | (simp only [ti3, ti4, ti23]; omega) | (simp [ti3, ti4, ti23]; omega) | (simp_all; done) | (simp [SV.cellsL, SV.cells]; done) | (simp [SV.cellsL, SV.cells]; omega)) ?_
  iterate 2 refine stg (m := false) tabok rfl rfl rfl rfl rfl (by intro hg; have hg0 := hg; (try simp only [Bool.or_eq_true, Bool.and_eq_true, Bool.not_eq_true', Bool.not_eq_false', Bool.or_eq_false_iff, Bool.and_eq_false_imp, decide_eq_true_eq, decide_eq_false_iff_not, Bool.not_true, Bool.not_false, beq_iff_eq, Bool.not_eq_true, Bool.not_eq_false, Bool.true_eq_false, Bool.false_eq_true, not_or, Decidable.not_not, ne_eq] at hg); (try simp only [Int.toNat_natCast, dflt_i, dflt_b, dflt_l, dflt_p, Int.toNat_zero, gt_iff_lt, ge_iff_le] at hg); (repeat' apply And.intro); all_goals first | exact hg0 | exact True.intro | rfl | omega | (simp only [inr]; omega) | (simp only [IntKind.bits]; omega) | (simp only [Bool.or_eq_true, Bool.and_eq_true, Bool.not_eq_true', Bool.not_eq_false', Bool.or_eq_false_iff, Bool.and_eq_false_imp, decide_eq_true_eq, decide_eq_false_iff_not, Bool.not_true, Bool.not_false, beq_iff_eq, Bool.not_eq_true, Bool.not_eq_false, Bool.true_eq_false, Bool.false_eq_true, not_or, Decidable.not_not, ne_eq]; omega) | (simp only [inr, Int.toNat_natCast, dflt_i, dflt_b, dflt_l, dflt_p, Int.toNat_zero, gt_iff_lt, ge_iff_le]; omega) | (simp only [Int.toNat_natCast, dflt_i, dflt_b, dflt_l, dflt_p, Int.toNat_zero, gt_iff_lt, ge_iff_le]; omega) | (simp only [Bool.or_eq_true, Bool.and_eq_true, Bool.not_eq_true', Bool.not_eq_false', Bool.or_eq_false_iff, Bool.and_eq_false_imp, decide_eq_true_eq, decide_eq_false_iff_not, Bool.not_true, Bool.not_false, beq_iff_eq, Bool.not_eq_true, Bool.not_eq_false, Bool.true_eq_false, Bool.false_eq_true, not_or, Decidable.not_not, ne_eq] at hg0 ⊢; simp_all; done) | (simp_all; done) | (simp_all; omega)) ?_
  iterate 2 refine st (m := false) tabok rfl rfl rfl (by (repeat' apply And.intro); all_goals first | exact True.intro | rfl | omega | (simp only [inr]; omega) | (simp only [IntKind.bits]; omega) | exact fun h => h | (intro hq; rw [hq]; rfl) | (simp only [Int.toNat_natCast, dflt_i, dflt_b, dflt_l, dflt_p, Int.toNat_zero, gt_iff_lt, ge_iff_le]; omega) | (simp only [ti3, ti4, ti23]; omega) | (simp [ti3, ti4, ti23]; omega) | (simp_all; done) | (simp [SV.cellsL, SV.cells]; done) | (simp [SV.cellsL, SV.cells]; omega)) ?_
  iterate 3 refine stg (m := false) tabok rfl rfl rfl rfl rfl (by intro hg; have hg0 := hg; (try simp only [Bool.or_eq_true, Bool.and_eq_true, Bool.not_eq_true', Bool.not_eq_false', Bool.or_eq_false_iff, Bool.and_eq_false_imp, decide_eq_true_eq, decide_eq_false_iff_not, Bool.not_true, Bool.not_false, beq_iff_eq, Bool.not_eq_true, Bool.not_eq_false, Bool.true_eq_false, Bool.false_eq_true, not_or, Decidable.not_not, ne_eq] at hg); (try simp only [Int.toNat_natCast, dflt_i, dflt_b, dflt_l, dflt_p, Int.toNat_zero, gt_iff_lt, ge_iff_le] at hg); (repeat' apply And.intro); all_goals first | exact hg0 | exact True.intro | rfl | omega | (simp only [inr]; omega) | (simp only [IntKind.bits]; omega) | (simp only [Bool.or_eq_true, Bool.and_eq_true, Bool.not_eq_true', Bool.not_eq_false', Bool.or_eq_false_iff, Bool.and_eq_false_imp, decide_eq_true_eq, decide_eq_false_iff_not, Bool.not_true, Bool.not_false, beq_iff_eq, Bool.not_eq_true, Bool.not_eq_false, Bool.true_eq_false, Bool.false_eq_true, not_or, Decidable.not_not, ne_eq]; omega) | (simp only [inr, Int.toNat_natCast, dflt_i, dflt_b, dflt_l, dflt_p, Int.toNat_zero, gt_iff_lt, ge_iff_le]; omega) | (simp only [Int.toNat_natCast, dflt_i, dflt_b, dflt_l, dflt_p, Int.toNat_zero, gt_iff_lt, ge_iff_le]; omega) | (simp only [Bool.or_eq_true, Bool.and_eq_true, Bool.not_eq_true', Bool.not_eq_false', Bool.or_eq_false_iff, Bool.and_eq_false_imp, decide_eq_true_eq, decide_eq_false_iff_not, Bool.not_true, Bool.not_false, beq_iff_eq, Bool.not_eq_true, Bool.not_eq_false, Bool.true_eq_false, Bool.false_eq_true, not_or, Decidable.not_not, ne_eq] at hg0 ⊢; simp_all; done) | (simp_all; done) | (simp_all; omega)) ?_
  iterate 2 refine st (m := false) tabok rfl rfl rfl (by (repeat' apply And.intro); all_goals first | exact True.intro | rfl | omega | (simp only [inr]; omega) | (simp only [IntKind.bits]; omega) | exact fun h => h | (intro hq; rw [hq]; rfl) | (simp only [Int.toNat_natCast, dflt_i, dflt_b, dflt_l, dflt_p, Int.toNat_zero, gt_iff_lt, ge_iff_le]; omega) | (simp only [ti3, ti4, ti23]; omega) | (simp [ti3, ti4, ti23]; omega) | (simp_all; done) | (simp [SV.cellsL, SV.cells]; done) | (simp [SV.cellsL, SV.cells]; omega)) ?_
  iterate 5 refine stg (m := false) tabok rfl rfl rfl rfl rfl (by intro hg; have hg0 := hg; (try simp only [Bool.or_eq_true, Bool.and_eq_true, Bool.not_eq_true', Bool.not_eq_false', Bool.or_eq_false_iff, Bool.and_eq_false_imp, decide_eq_true_eq, decide_eq_false_iff_not, Bool.not_true, Bool.not_false, beq_iff_eq, Bool.not_eq_true, Bool.not_eq_false, Bool.true_eq_false, Bool.false_eq_true, not_or, Decidable.not_not, ne_eq] at hg); (try simp only [Int.toNat_natCast, dflt_i, dflt_b, dflt_l, dflt_p, Int.toNat_zero, gt_iff_lt, ge_iff_le] at hg); (repeat' apply And.intro); all_goals first | exact hg0 | exact True.intro | rfl | omega | (simp only [inr]; omega) | (simp only [IntKind.bits]; omega) | (simp only [Bool.or_eq_true, Bool.and_eq_true, Bool.not_eq_true', Bool.not_eq_false', Bool.or_eq_false_iff, Bool.and_eq_false_imp, decide_eq_true_eq, decide_eq_false_iff_not, Bool.not_true, Bool.not_false, beq_iff_eq, Bool.not_eq_true, Bool.not_eq_false, Bool.true_eq_false, Bool.false_eq_true, not_or, Decidable.not_not, ne_eq]; omega) | (simp only [inr, Int.toNat_natCast, dflt_i, dflt_b, dflt_l, dflt_p, Int.toNat_zero, gt_iff_lt, ge_iff_le]; omega) | (simp only [Int.toNat_natCast, dflt_i, dflt_b, dflt_l, dflt_p, Int.toNat_zero, gt_iff_lt, ge_iff_le]; omega) | (simp only [Bool.or_eq_true, Bool.and_eq_true, Bool.not_eq_true', Bool.not_eq_false', Bool.or_eq_false_iff, Bool.and_eq_false_imp, decide_eq_true_eq, decide_eq_false_iff_not, Bool.not_true, Bool.not_false, beq_iff_eq, Bool.not_eq_true, Bool.not_eq_false, Bool.true_eq_false, Bool.false_eq_true, not_or, Decidable.not_not, ne_eq] at hg0 ⊢; simp_all; done) | (simp_all; done) | (simp_all; omega)) ?_
  refine st (m := false) tabok rfl rfl rfl (by (repeat' apply And.intro); all_goals first | exact True.intro | rfl | omega | (simp only [inr]; omega) | (simp only [IntKind.bits]; omega) | exact fun h => h | (intro hq; rw [hq]; rfl) | (simp only [Int.toNat_natCast, dflt_i, dflt_b, dflt_l, dflt_p, Int.toNat_zero, gt_iff_lt, ge_iff_le]; omega) | (simp only [ti3, ti4, ti23]; omega) | (simp [ti3, ti4, ti23]; omega) | (simp_all; done) | (simp [SV.cellsL, SV.cells]; done) | (simp [SV.cellsL, SV.cells]; omega)) ?_
  refine ops_nil ?_
  refine aw_if rfl (fun c1 => ?_) (fun c1 => ?_)
  · try simp only [Bool.or_eq_true, Bool.and_eq_true, Bool.not_eq_true', Bool.not_eq_false', Bool.or_eq_false_iff, Bool.and_eq_false_imp, decide_eq_true_eq, decide_eq_false_iff_not, Bool.not_true, Bool.not_false, beq_iff_eq, Bool.not_eq_true, Bool.not_eq_false, Bool.true_eq_false, Bool.false_eq_true, not_or, Decidable.not_not, ne_eq] at c1
    try simp only [Int.toNat_natCast, dflt_i, dflt_b, dflt_l, dflt_p, Int.toNat_zero, gt_iff_lt, ge_iff_le] at c1
    refine aw_seq ?_
    refine aw_reg _ (by kernel_rfl) rfl ?_
    refine st (m := false) tabok rfl rfl rfl (by (repeat' apply And.intro); all_goals first | exact True.intro | rfl | omega | (simp only [inr]; omega) | (simp only [IntKind.bits]; omega) | exact fun h => h | (intro hq; rw [hq]; rfl) | (simp only [Int.toNat_natCast, dflt_i, dflt_b, dflt_l, dflt_p, Int.toNat_zero, gt_iff_lt, ge_iff_le]; omega) | (simp only [ti3, ti4, ti23]; omega) | (simp [ti3, ti4, ti23]; omega) | (simp_all; done) | (simp [SV.cellsL, SV.cells]; done) | (simp [SV.cellsL, SV.cells]; omega)) ?_
    refine ops_nil ?_
    refine aw_ret ?_
    -- leaf ret.1t
    refine ret_c ?_
    exact fs_int (by unfold checkS; rw [if_pos (by omega)])
  · try simp only [Bool.or_eq_true, Bool.and_eq_true, Bool.not_eq_true', Bool.not_eq_false', Bool.or_eq_false_iff, Bool.and_eq_false_imp, decide_eq_true_eq, decide_eq_false_iff_not, Bool.not_true, Bool.not_false, beq_iff_eq, Bool.not_eq_true, Bool.not_eq_false, Bool.true_eq_false, Bool.false_eq_true, not_or, Decidable.not_not, ne_eq] at c1
    try simp only [Int.toNat_natCast, dflt_i, dflt_b, dflt_l, dflt_p, Int.toNat_zero, gt_iff_lt, ge_iff_le] at c1
    refine aw_skip ?_
    refine aw_seq ?_
    refine aw_reg _ (by kernel_rfl) rfl ?_
    refine st (m := false) tabok rfl rfl rfl (by (repeat' apply And.intro); all_goals first | exact True.intro | rfl | omega | (simp only [inr]; omega) | (simp only [IntKind.bits]; omega) | exact fun h => h | (intro hq; rw [hq]; rfl) | (simp only [Int.toNat_natCast, dflt_i, dflt_b, dflt_l, dflt_p, Int.toNat_zero, gt_iff_lt, ge_iff_le]; omega) | (simp only [ti3, ti4, ti23]; omega) | (simp [ti3, ti4, ti23]; omega) | (simp_all; done) | (simp [SV.cellsL, SV.cells]; done) | (simp [SV.cellsL, SV.cells]; omega)) ?_
    refine ops_nil ?_
    refine aw_ret ?_
    -- leaf ret.1f
    refine ret_c ?_
    exact fs_int (by unfold checkS; rw [if_neg (by omega)])
def decE (n c f : Int) : Int := if checkS n c n ≠ 0 ∨ f < 0 ∨ f > n then 3 else 0
def decB (n c f : Int) : Bool := decide (decE n c f = 0) && decide (f ≤ c)
theorem decide_ok (n c f : Int) : CS Try.prog 12 [planV n c, .int .i64 f] (.tup [.bool (decB n c f), .int .i64 (decE n c f)]) := by
  refine fn_c [4, 5] Try.func12 Try.ntmps12 rfl rfl rfl rfl ?_
  refine aw_seq ?_
  refine aw_reg _ (by kernel_rfl) rfl ?_
  iterate 3 refine st (m := false) tabok rfl rfl rfl (by (repeat' apply And.intro); all_goals first | exact True.intro | rfl | omega | (simp only [inr]; omega) | (simp only [IntKind.bits]; omega) | exact fun h => h | (intro hq; rw [hq]; rfl) | (simp only [Int.toNat_natCast, dflt_i, dflt_b, dflt_l, dflt_p, Int.toNat_zero, gt_iff_lt, ge_iff_le]; omega) | (simp only [ti3, ti4, ti23]; omega) | (simp [ti3, ti4, ti23]; omega) | (simp_all; done) | (simp [SV.cellsL, SV.cells]; done) | (simp [SV.cellsL, SV.cells]; omega)) ?_
  refine ops_nil ?_
  refine aw_seq ?_
  refine aw_seq ?_
  refine aw_reg _ (by kernel_rfl) rfl ?_
  iterate 3 refine st (m := false) tabok rfl rfl rfl (by (repeat' apply And.intro); all_goals first | exact True.intro | rfl | omega | (simp only [inr]; omega) | (simp only [IntKind.bits]; omega) | exact fun h => h | (intro hq; rw [hq]; rfl) | (simp only [Int.toNat_natCast, dflt_i, dflt_b, dflt_l, dflt_p, Int.toNat_zero, gt_iff_lt, ge_iff_le]; omega) | (simp only [ti3, ti4, ti23]; omega) | (simp [ti3, ti4, ti23]; omega) | (simp_all; done) | (simp [SV.cellsL, SV.cells]; done) | (simp [SV.cellsL, SV.cells]; omega)) ?_
  refine sc (check_ok n c n) rfl rfl (by kernel_rfl) rfl (by kernel_rfl) (.cons (by first | exact argw_same | exact argw_nil | exact argw_tt | exact argw_ff | exact argw_eq rfl) (.cons (by first | exact argw_same | exact argw_nil | exact argw_tt | exact argw_ff | exact argw_eq rfl) .nil)) ?_
  iterate 2 refine st (m := false) tabok rfl rfl rfl (by (repeat' apply And.intro); all_goals first | exact True.intro | rfl | omega | (simp only [inr]; omega) | (simp only [IntKind.bits]; omega) | exact fun h => h | (intro hq; rw [hq]; rfl) | (simp only [Int.toNat_natCast, dflt_i, dflt_b, dflt_l, dflt_p, Int.toNat_zero, gt_iff_lt, ge_iff_le]; omega) | (simp only [ti3, ti4, ti23]; omega) | (simp [ti3, ti4, ti23]; omega) | (simp_all; done) | (simp [SV.cellsL, SV.cells]; done) | (simp [SV.cellsL, SV.cells]; omega)) ?_
  iterate 2 refine stg (m := false) tabok rfl rfl rfl rfl rfl (by intro hg; have hg0 := hg; (try simp only [Bool.or_eq_true, Bool.and_eq_true, Bool.not_eq_true', Bool.not_eq_false', Bool.or_eq_false_iff, Bool.and_eq_false_imp, decide_eq_true_eq, decide_eq_false_iff_not, Bool.not_true, Bool.not_false, beq_iff_eq, Bool.not_eq_true, Bool.not_eq_false, Bool.true_eq_false, Bool.false_eq_true, not_or, Decidable.not_not, ne_eq] at hg); (try simp only [Int.toNat_natCast, dflt_i, dflt_b, dflt_l, dflt_p, Int.toNat_zero, gt_iff_lt, ge_iff_le] at hg); (repeat' apply And.intro); all_goals first | exact hg0 | exact True.intro | rfl | omega | (simp only [inr]; omega) | (simp only [IntKind.bits]; omega) | (simp only [Bool.or_eq_true, Bool.and_eq_true, Bool.not_eq_true', Bool.not_eq_false', Bool.or_eq_false_iff, Bool.and_eq_false_imp, decide_eq_true_eq, decide_eq_false_iff_not, Bool.not_true, Bool.not_false, beq_iff_eq, Bool.not_eq_true, Bool.not_eq_false, Bool.true_eq_false, Bool.false_eq_true, not_or, Decidable.not_not, ne_eq]; omega) | (simp only [inr, Int.toNat_natCast, dflt_i, dflt_b, dflt_l, dflt_p, Int.toNat_zero, gt_iff_lt, ge_iff_le]; omega) | (simp only [Int.toNat_natCast, dflt_i, dflt_b, dflt_l, dflt_p, Int.toNat_zero, gt_iff_lt, ge_iff_le]; omega) | (simp only [Bool.or_eq_true, Bool.and_eq_true, Bool.not_eq_true', Bool.not_eq_false', Bool.or_eq_false_iff, Bool.and_eq_false_imp, decide_eq_true_eq, decide_eq_false_iff_not, Bool.not_true, Bool.not_false, beq_iff_eq, Bool.not_eq_true, Bool.not_eq_false, Bool.true_eq_false, Bool.false_eq_true, not_or, Decidable.not_not, ne_eq] at hg0 ⊢; simp_all; done) | (simp_all; done) | (simp_all; omega)) ?_
  iterate 2 refine st (m := false) tabok rfl rfl rfl (by (repeat' apply And.intro); all_goals first | exact True.intro | rfl | omega | (simp only [inr]; omega) | (simp only [IntKind.bits]; omega) | exact fun h => h | (intro hq; rw [hq]; rfl) | (simp only [Int.toNat_natCast, dflt_i, dflt_b, dflt_l, dflt_p, Int.toNat_zero, gt_iff_lt, ge_iff_le]; omega) | (simp only [ti3, ti4, ti23]; omega) | (simp [ti3, ti4, ti23]; omega) | (simp_all; done) | (simp [SV.cellsL, SV.cells]; done) | (simp [SV.cellsL, SV.cells]; omega)) ?_
  iterate 4 refine stg (m := false) tabok rfl rfl rfl rfl rfl (by intro hg; have hg0 := hg; (try simp only [Bool.or_eq_true, Bool.and_eq_true, Bool.not_eq_true', Bool.not_eq_false', Bool.or_eq_false_iff, Bool.and_eq_false_imp, decide_eq_true_eq, decide_eq_false_iff_not, Bool.not_true, Bool.not_false, beq_iff_eq, Bool.not_eq_true, Bool.not_eq_false, Bool.true_eq_false, Bool.false_eq_true, not_or, Decidable.not_not, ne_eq] at hg); (try simp only [Int.toNat_natCast, dflt_i, dflt_b, dflt_l, dflt_p, Int.toNat_zero, gt_iff_lt, ge_iff_le] at hg); (repeat' apply And.intro); all_goals first | exact hg0 | exact True.intro | rfl | omega | (simp only [inr]; omega) | (simp only [IntKind.bits]; omega) | (simp only [Bool.or_eq_true, Bool.and_eq_true, Bool.not_eq_true', Bool.not_eq_false', Bool.or_eq_false_iff, Bool.and_eq_false_imp, decide_eq_true_eq, decide_eq_false_iff_not, Bool.not_true, Bool.not_false, beq_iff_eq, Bool.not_eq_true, Bool.not_eq_false, Bool.true_eq_false, Bool.false_eq_true, not_or, Decidable.not_not, ne_eq]; omega) | (simp only [inr, Int.toNat_natCast, dflt_i, dflt_b, dflt_l, dflt_p, Int.toNat_zero, gt_iff_lt, ge_iff_le]; omega) | (simp only [Int.toNat_natCast, dflt_i, dflt_b, dflt_l, dflt_p, Int.toNat_zero, gt_iff_lt, ge_iff_le]; omega) | (simp only [Bool.or_eq_true, Bool.and_eq_true, Bool.not_eq_true', Bool.not_eq_false', Bool.or_eq_false_iff, Bool.and_eq_false_imp, decide_eq_true_eq, decide_eq_false_iff_not, Bool.not_true, Bool.not_false, beq_iff_eq, Bool.not_eq_true, Bool.not_eq_false, Bool.true_eq_false, Bool.false_eq_true, not_or, Decidable.not_not, ne_eq] at hg0 ⊢; simp_all; done) | (simp_all; done) | (simp_all; omega)) ?_
  refine st (m := false) tabok rfl rfl rfl (by (repeat' apply And.intro); all_goals first | exact True.intro | rfl | omega | (simp only [inr]; omega) | (simp only [IntKind.bits]; omega) | exact fun h => h | (intro hq; rw [hq]; rfl) | (simp only [Int.toNat_natCast, dflt_i, dflt_b, dflt_l, dflt_p, Int.toNat_zero, gt_iff_lt, ge_iff_le]; omega) | (simp only [ti3, ti4, ti23]; omega) | (simp [ti3, ti4, ti23]; omega) | (simp_all; done) | (simp [SV.cellsL, SV.cells]; done) | (simp [SV.cellsL, SV.cells]; omega)) ?_
  refine ops_nil ?_
  refine aw_if rfl (fun c1 => ?_) (fun c1 => ?_)
  · try simp only [Bool.or_eq_true, Bool.and_eq_true, Bool.not_eq_true', Bool.not_eq_false', Bool.or_eq_false_iff, Bool.and_eq_false_imp, decide_eq_true_eq, decide_eq_false_iff_not, Bool.not_true, Bool.not_false, beq_iff_eq, Bool.not_eq_true, Bool.not_eq_false, Bool.true_eq_false, Bool.false_eq_true, not_or, Decidable.not_not, ne_eq] at c1
    try simp only [Int.toNat_natCast, dflt_i, dflt_b, dflt_l, dflt_p, Int.toNat_zero, gt_iff_lt, ge_iff_le] at c1
    refine aw_seq ?_
    refine aw_reg _ (by kernel_rfl) rfl ?_
    iterate 2 refine st (m := false) tabok rfl rfl rfl (by (repeat' apply And.intro); all_goals first | exact True.intro | rfl | omega | (simp only [inr]; omega) | (simp only [IntKind.bits]; omega) | exact fun h => h | (intro hq; rw [hq]; rfl) | (simp only [Int.toNat_natCast, dflt_i, dflt_b, dflt_l, dflt_p, Int.toNat_zero, gt_iff_lt, ge_iff_le]; omega) | (simp only [ti3, ti4, ti23]; omega) | (simp [ti3, ti4, ti23]; omega) | (simp_all; done) | (simp [SV.cellsL, SV.cells]; done) | (simp [SV.cellsL, SV.cells]; omega)) ?_
    refine ops_nil ?_
    refine aw_ret ?_
    -- leaf ret.1t
    refine ret_c ?_
    have e : decE n c f = 3 := by unfold decE; rw [if_pos (by omega)]
    exact fs_tup (.cons (fs_ff (by simp [decB, e])) (.cons (fs_int e.symm) .nil))
  · try simp only [Bool.or_eq_true, Bool.and_eq_true, Bool.not_eq_true', Bool.not_eq_false', Bool.or_eq_false_iff, Bool.and_eq_false_imp, decide_eq_true_eq, decide_eq_false_iff_not, Bool.not_true, Bool.not_false, beq_iff_eq, Bool.not_eq_true, Bool.not_eq_false, Bool.true_eq_false, Bool.false_eq_true, not_or, Decidable.not_not, ne_eq] at c1
    try simp only [Int.toNat_natCast, dflt_i, dflt_b, dflt_l, dflt_p, Int.toNat_zero, gt_iff_lt, ge_iff_le] at c1
    refine aw_skip ?_
    refine aw_seq ?_
    refine aw_reg _ (by kernel_rfl) rfl ?_
    iterate 6 refine st (m := false) tabok rfl rfl rfl (by (repeat' apply And.intro); all_goals first | exact True.intro | rfl | omega | (simp only [inr]; omega) | (simp only [IntKind.bits]; omega) | exact fun h => h | (intro hq; rw [hq]; rfl) | (simp only [Int.toNat_natCast, dflt_i, dflt_b, dflt_l, dflt_p, Int.toNat_zero, gt_iff_lt, ge_iff_le]; omega) | (simp only [ti3, ti4, ti23]; omega) | (simp [ti3, ti4, ti23]; omega) | (simp_all; done) | (simp [SV.cellsL, SV.cells]; done) | (simp [SV.cellsL, SV.cells]; omega)) ?_
    refine ops_nil ?_
    refine aw_ret ?_
    -- leaf ret.1f
    refine ret_c ?_
    have e : decE n c f = 0 := by unfold decE; rw [if_neg (by omega)]
    exact fs_tup (.cons (fs_bool (by simp [decB, e])) (.cons (fs_int e.symm) .nil))
theorem rdecide_ok (n c f : Int) : CS Try.prog 13 [planV n c, .int .i64 f] (.tup [.bool (decB n c f), .int .i64 (decE n c f)]) := by
  refine fn_c [4, 5] Try.func13 Try.ntmps13 rfl rfl rfl rfl ?_
  refine aw_seq ?_
  refine aw_reg _ (by kernel_rfl) rfl ?_
  iterate 3 refine st (m := false) tabok rfl rfl rfl (by (repeat' apply And.intro); all_goals first | exact True.intro | rfl | omega | (simp only [inr]; omega) | (simp only [IntKind.bits]; omega) | exact fun h => h | (intro hq; rw [hq]; rfl) | (simp only [Int.toNat_natCast, dflt_i, dflt_b, dflt_l, dflt_p, Int.toNat_zero, gt_iff_lt, ge_iff_le]; omega) | (simp only [ti3, ti4, ti23]; omega) | (simp [ti3, ti4, ti23]; omega) | (simp_all; done) | (simp [SV.cellsL, SV.cells]; done) | (simp [SV.cellsL, SV.cells]; omega)) ?_
  refine ops_nil ?_
  refine aw_seq ?_
  refine aw_seq ?_
  refine aw_reg _ (by kernel_rfl) rfl ?_
  iterate 3 refine st (m := false) tabok rfl rfl rfl (by (repeat' apply And.intro); all_goals first | exact True.intro | rfl | omega | (simp only [inr]; omega) | (simp only [IntKind.bits]; omega) | exact fun h => h | (intro hq; rw [hq]; rfl) | (simp only [Int.toNat_natCast, dflt_i, dflt_b, dflt_l, dflt_p, Int.toNat_zero, gt_iff_lt, ge_iff_le]; omega) | (simp only [ti3, ti4, ti23]; omega) | (simp [ti3, ti4, ti23]; omega) | (simp_all; done) | (simp [SV.cellsL, SV.cells]; done) | (simp [SV.cellsL, SV.cells]; omega)) ?_
  refine sc (rcheck_ok n c n) rfl rfl (by kernel_rfl) rfl (by kernel_rfl) (.cons (by first | exact argw_same | exact argw_nil | exact argw_tt | exact argw_ff | exact argw_eq rfl) (.cons (by first | exact argw_same | exact argw_nil | exact argw_tt | exact argw_ff | exact argw_eq rfl) .nil)) ?_
  iterate 2 refine st (m := false) tabok rfl rfl rfl (by (repeat' apply And.intro); all_goals first | exact True.intro | rfl | omega | (simp only [inr]; omega) | (simp only [IntKind.bits]; omega) | exact fun h => h | (intro hq; rw [hq]; rfl) | (simp only [Int.toNat_natCast, dflt_i, dflt_b, dflt_l, dflt_p, Int.toNat_zero, gt_iff_lt, ge_iff_le]; omega) | (simp only [ti3, ti4, ti23]; omega) | (simp [ti3, ti4, ti23]; omega) | (simp_all; done) | (simp [SV.cellsL, SV.cells]; done) | (simp [SV.cellsL, SV.cells]; omega)) ?_
  iterate 2 refine stg (m := false) tabok rfl rfl rfl rfl rfl (by intro hg; have hg0 := hg; (try simp only [Bool.or_eq_true, Bool.and_eq_true, Bool.not_eq_true', Bool.not_eq_false', Bool.or_eq_false_iff, Bool.and_eq_false_imp, decide_eq_true_eq, decide_eq_false_iff_not, Bool.not_true, Bool.not_false, beq_iff_eq, Bool.not_eq_true, Bool.not_eq_false, Bool.true_eq_false, Bool.false_eq_true, not_or, Decidable.not_not, ne_eq] at hg); (try simp only [Int.toNat_natCast, dflt_i, dflt_b, dflt_l, dflt_p, Int.toNat_zero, gt_iff_lt, ge_iff_le] at hg); (repeat' apply And.intro); all_goals first | exact hg0 | exact True.intro | rfl | omega | (simp only [inr]; omega) | (simp only [IntKind.bits]; omega) | (simp only [Bool.or_eq_true, Bool.and_eq_true, Bool.not_eq_true', Bool.not_eq_false', Bool.or_eq_false_iff, Bool.and_eq_false_imp, decide_eq_true_eq, decide_eq_false_iff_not, Bool.not_true, Bool.not_false, beq_iff_eq, Bool.not_eq_true, Bool.not_eq_false, Bool.true_eq_false, Bool.false_eq_true, not_or, Decidable.not_not, ne_eq]; omega) | (simp only [inr, Int.toNat_natCast, dflt_i, dflt_b, dflt_l, dflt_p, Int.toNat_zero, gt_iff_lt, ge_iff_le]; omega) | (simp only [Int.toNat_natCast, dflt_i, dflt_b, dflt_l, dflt_p, Int.toNat_zero, gt_iff_lt, ge_iff_le]; omega) | (simp only [Bool.or_eq_true, Bool.and_eq_true, Bool.not_eq_true', Bool.not_eq_false', Bool.or_eq_false_iff, Bool.and_eq_false_imp, decide_eq_true_eq, decide_eq_false_iff_not, Bool.not_true, Bool.not_false, beq_iff_eq, Bool.not_eq_true, Bool.not_eq_false, Bool.true_eq_false, Bool.false_eq_true, not_or, Decidable.not_not, ne_eq] at hg0 ⊢; simp_all; done) | (simp_all; done) | (simp_all; omega)) ?_
  iterate 2 refine st (m := false) tabok rfl rfl rfl (by (repeat' apply And.intro); all_goals first | exact True.intro | rfl | omega | (simp only [inr]; omega) | (simp only [IntKind.bits]; omega) | exact fun h => h | (intro hq; rw [hq]; rfl) | (simp only [Int.toNat_natCast, dflt_i, dflt_b, dflt_l, dflt_p, Int.toNat_zero, gt_iff_lt, ge_iff_le]; omega) | (simp only [ti3, ti4, ti23]; omega) | (simp [ti3, ti4, ti23]; omega) | (simp_all; done) | (simp [SV.cellsL, SV.cells]; done) | (simp [SV.cellsL, SV.cells]; omega)) ?_
  iterate 4 refine stg (m := false) tabok rfl rfl rfl rfl rfl (by intro hg; have hg0 := hg; (try simp only [Bool.or_eq_true, Bool.and_eq_true, Bool.not_eq_true', Bool.not_eq_false', Bool.or_eq_false_iff, Bool.and_eq_false_imp, decide_eq_true_eq, decide_eq_false_iff_not, Bool.not_true, Bool.not_false, beq_iff_eq, Bool.not_eq_true, Bool.not_eq_false, Bool.true_eq_false, Bool.false_eq_true, not_or, Decidable.not_not, ne_eq] at hg); (try simp only [Int.toNat_natCast, dflt_i, dflt_b, dflt_l, dflt_p, Int.toNat_zero, gt_iff_lt, ge_iff_le] at hg); (repeat' apply And.intro); all_goals first | exact hg0 | exact True.intro | rfl | omega | (simp only [inr]; omega) | (simp only [IntKind.bits]; omega) | (simp only [Bool.or_eq_true, Bool.and_eq_true, Bool.not_eq_true', Bool.not_eq_false', Bool.or_eq_false_iff, Bool.and_eq_false_imp, decide_eq_true_eq, decide_eq_false_iff_not, Bool.not_true, Bool.not_false, beq_iff_eq, Bool.not_eq_true, Bool.not_eq_false, Bool.true_eq_false, Bool.false_eq_true, not_or, Decidable.not_not, ne_eq]; omega) | (simp only [inr, Int.toNat_natCast, dflt_i, dflt_b, dflt_l, dflt_p, Int.toNat_zero, gt_iff_lt, ge_iff_le]; omega) | (simp only [Int.toNat_natCast, dflt_i, dflt_b, dflt_l, dflt_p, Int.toNat_zero, gt_iff_lt, ge_iff_le]; omega) | (simp only [Bool.or_eq_true, Bool.and_eq_true, Bool.not_eq_true', Bool.not_eq_false', Bool.or_eq_false_iff, Bool.and_eq_false_imp, decide_eq_true_eq, decide_eq_false_iff_not, Bool.not_true, Bool.not_false, beq_iff_eq, Bool.not_eq_true, Bool.not_eq_false, Bool.true_eq_false, Bool.false_eq_true, not_or, Decidable.not_not, ne_eq] at hg0 ⊢; simp_all; done) | (simp_all; done) | (simp_all; omega)) ?_
  refine st (m := false) tabok rfl rfl rfl (by (repeat' apply And.intro); all_goals first | exact True.intro | rfl | omega | (simp only [inr]; omega) | (simp only [IntKind.bits]; omega) | exact fun h => h | (intro hq; rw [hq]; rfl) | (simp only [Int.toNat_natCast, dflt_i, dflt_b, dflt_l, dflt_p, Int.toNat_zero, gt_iff_lt, ge_iff_le]; omega) | (simp only [ti3, ti4, ti23]; omega) | (simp [ti3, ti4, ti23]; omega) | (simp_all; done) | (simp [SV.cellsL, SV.cells]; done) | (simp [SV.cellsL, SV.cells]; omega)) ?_
  refine ops_nil ?_
  refine aw_if rfl (fun c1 => ?_) (fun c1 => ?_)
  · try simp only [Bool.or_eq_true, Bool.and_eq_true, Bool.not_eq_true', Bool.not_eq_false', Bool.or_eq_false_iff, Bool.and_eq_false_imp, decide_eq_true_eq, decide_eq_false_iff_not, Bool.not_true, Bool.not_false, beq_iff_eq, Bool.not_eq_true, Bool.not_eq_false, Bool.true_eq_false, Bool.false_eq_true, not_or, Decidable.not_not, ne_eq] at c1
    try simp only [Int.toNat_natCast, dflt_i, dflt_b, dflt_l, dflt_p, Int.toNat_zero, gt_iff_lt, ge_iff_le] at c1
    refine aw_seq ?_
    refine aw_reg _ (by kernel_rfl) rfl ?_
    iterate 2 refine st (m := false) tabok rfl rfl rfl (by (repeat' apply And.intro); all_goals first | exact True.intro | rfl | omega | (simp only [inr]; omega) | (simp only [IntKind.bits]; omega) | exact fun h => h | (intro hq; rw [hq]; rfl) | (simp only [Int.toNat_natCast, dflt_i, dflt_b, dflt_l, dflt_p, Int.toNat_zero, gt_iff_lt, ge_iff_le]; omega) | (simp only [ti3, ti4, ti23]; omega) | (simp [ti3, ti4, ti23]; omega) | (simp_all; done) | (simp [SV.cellsL, SV.cells]; done) | (simp [SV.cellsL, SV.cells]; omega)) ?_
    refine ops_nil ?_
    refine aw_ret ?_
    -- leaf ret.1t
    refine ret_c ?_
    have e : decE n c f = 3 := by unfold decE; rw [if_pos (by omega)]
    exact fs_tup (.cons (fs_ff (by simp [decB, e])) (.cons (fs_int e.symm) .nil))
  · try simp only [Bool.or_eq_true, Bool.and_eq_true, Bool.not_eq_true', Bool.not_eq_false', Bool.or_eq_false_iff, Bool.and_eq_false_imp, decide_eq_true_eq, decide_eq_false_iff_not, Bool.not_true, Bool.not_false, beq_iff_eq, Bool.not_eq_true, Bool.not_eq_false, Bool.true_eq_false, Bool.false_eq_true, not_or, Decidable.not_not, ne_eq] at c1
    try simp only [Int.toNat_natCast, dflt_i, dflt_b, dflt_l, dflt_p, Int.toNat_zero, gt_iff_lt, ge_iff_le] at c1
    refine aw_skip ?_
    refine aw_seq ?_
    refine aw_reg _ (by kernel_rfl) rfl ?_
    iterate 6 refine st (m := false) tabok rfl rfl rfl (by (repeat' apply And.intro); all_goals first | exact True.intro | rfl | omega | (simp only [inr]; omega) | (simp only [IntKind.bits]; omega) | exact fun h => h | (intro hq; rw [hq]; rfl) | (simp only [Int.toNat_natCast, dflt_i, dflt_b, dflt_l, dflt_p, Int.toNat_zero, gt_iff_lt, ge_iff_le]; omega) | (simp only [ti3, ti4, ti23]; omega) | (simp [ti3, ti4, ti23]; omega) | (simp_all; done) | (simp [SV.cellsL, SV.cells]; done) | (simp [SV.cellsL, SV.cells]; omega)) ?_
    refine ops_nil ?_
    refine aw_ret ?_
    -- leaf ret.1f
    refine ret_c ?_
    have e : decE n c f = 0 := by unfold decE; rw [if_neg (by omega)]
    exact fs_tup (.cons (fs_bool (by simp [decB, e])) (.cons (fs_int e.symm) .nil))
end Go.Sim
end
section
namespace Go.Sim
open Go Go.Proofs
set_option maxRecDepth 10000
set_option autoImplicit false
set_option linter.unusedSimpArgs false
set_option linter.unusedVariables false
theorem trim_row (l : List Int) (hl : l.length ≤ 1000000) : CS Try.prog 66 [.row TU32 l] (.row TU32 (l.take (tn l l.length))) := by
  refine fn_c [2] Try.func66 Try.ntmps66 rfl rfl rfl rfl ?_
  refine aw_seq ?_
  refine aw_reg _ (by kernel_rfl) rfl ?_
  refine zst tabok rfl rfl rfl ?_
  refine ops_nil ?_
  refine aw_seq ?_
  refine aw_reg _ (by kernel_rfl) rfl ?_
  iterate 3 refine zst tabok rfl rfl rfl ?_
  refine ops_nil ?_
  refine aw_seq ?_
  refine aw_block ?_
  refine aw_loop (X := (Nat)) (fun (k : Nat) => outT (look [(0, .row TU32 l), (3, .int .i64 k)])) (fun (k : Nat) => outS []) (fun (k : Nat) => (k ≤ l.length) ∧ (tn l k = tn l l.length)) (fun (k : Nat) => k) (l.length) ?_ ?_ ?_
  -- leaf L0:entry
  · exact (by refine goes_to (tm := _) (st := _) [] rfl rfl True.intro ⟨?_, ?_, True.intro⟩ <;> first | exact sk rfl rfl | exact sk (q_int (by omega)) rfl | exact sk (q_bool (by simp)) rfl | exact sk (q_view rfl rfl rfl (by omega)) rfl | exact sk (q_gview rfl (by simp)) rfl | exact sk (q_nil rfl) rfl | exact sk (q_row (by simp)) rfl | exact sk_g rfl rfl rfl rfl | exact sk_v rfl rfl rfl rfl rfl | exact sk_n rfl)
  · exact ⟨Nat.le_refl _, rfl⟩
  · skip
    rintro k ⟨hk, ht⟩
    change awpB _ _ _ _ _ (outT (look [(0, .row TU32 l), (3, .int .i64 k)])) (outS [])
    refine aw_seq ?_
    refine aw_seq ?_
    refine aw_reg _ (by kernel_rfl) rfl ?_
    iterate 3 refine zst tabok rfl rfl rfl ?_
    iterate 6 refine stg (m := false) tabok rfl rfl rfl rfl rfl (by intro hg; have hg0 := hg; (try simp only [Bool.or_eq_true, Bool.and_eq_true, Bool.not_eq_true', Bool.not_eq_false', Bool.or_eq_false_iff, Bool.and_eq_false_imp, decide_eq_true_eq, decide_eq_false_iff_not, Bool.not_true, Bool.not_false, beq_iff_eq, Bool.not_eq_true, Bool.not_eq_false, Bool.true_eq_false, Bool.false_eq_true, not_or, Decidable.not_not, ne_eq] at hg); (try simp only [Int.toNat_natCast, dflt_i, dflt_b, dflt_l, dflt_p, Int.toNat_zero, gt_iff_lt, ge_iff_le] at hg); (repeat' apply And.intro); all_goals first | exact hg0 | exact True.intro | rfl | omega | (simp only [inr]; omega) | (simp only [IntKind.bits]; omega) | (simp only [Bool.or_eq_true, Bool.and_eq_true, Bool.not_eq_true', Bool.not_eq_false', Bool.or_eq_false_iff, Bool.and_eq_false_imp, decide_eq_true_eq, decide_eq_false_iff_not, Bool.not_true, Bool.not_false, beq_iff_eq, Bool.not_eq_true, Bool.not_eq_false, Bool.true_eq_false, Bool.false_eq_true, not_or, Decidable.not_not, ne_eq]; omega) | (simp only [inr, Int.toNat_natCast, dflt_i, dflt_b, dflt_l, dflt_p, Int.toNat_zero, gt_iff_lt, ge_iff_le]; omega) | (simp only [Int.toNat_natCast, dflt_i, dflt_b, dflt_l, dflt_p, Int.toNat_zero, gt_iff_lt, ge_iff_le]; omega) | (simp only [Bool.or_eq_true, Bool.and_eq_true, Bool.not_eq_true', Bool.not_eq_false', Bool.or_eq_false_iff, Bool.and_eq_false_imp, decide_eq_true_eq, decide_eq_false_iff_not, Bool.not_true, Bool.not_false, beq_iff_eq, Bool.not_eq_true, Bool.not_eq_false, Bool.true_eq_false, Bool.false_eq_true, not_or, Decidable.not_not, ne_eq] at hg0 ⊢; simp_all; done) | (simp_all; done) | (simp_all; omega)) ?_
    refine stq (m := false) tabok rfl rfl (by (repeat' apply And.intro) <;> first | exact True.intro | rfl | omega | (simp only [inr, IntKind.bits, Int.toNat_natCast, dflt_i, dflt_b, dflt_l, dflt_p, Int.toNat_zero, gt_iff_lt, ge_iff_le, ti3, ti4, ti34, ti44, ti53, ti80]; omega) | exact fun h => h | (intro hq; rw [hq]; rfl) | (simp [SV.cellsL, SV.cells] <;> omega) | (simp_all; done)) ?_
    refine ops_nil ?_
    refine aw_if rfl (fun c2 => ?_) (fun c2 => ?_)
    · try simp only [Bool.or_eq_true, Bool.and_eq_true, Bool.not_eq_true', Bool.not_eq_false', Bool.or_eq_false_iff, Bool.and_eq_false_imp, decide_eq_true_eq, decide_eq_false_iff_not, Bool.not_true, Bool.not_false, beq_iff_eq, Bool.not_eq_true, Bool.not_eq_false, Bool.true_eq_false, Bool.false_eq_true, not_or, Decidable.not_not, ne_eq] at c2
      try simp only [Int.toNat_natCast, dflt_i, dflt_b, dflt_l, dflt_p, Int.toNat_zero, gt_iff_lt, ge_iff_le] at c2
      refine aw_skip ?_
      refine aw_block ?_
      refine aw_reg _ (by kernel_rfl) rfl ?_
      iterate 3 refine stq (m := false) tabok rfl rfl (by (repeat' apply And.intro) <;> first | exact True.intro | rfl | omega | (simp only [inr, IntKind.bits, Int.toNat_natCast, dflt_i, dflt_b, dflt_l, dflt_p, Int.toNat_zero, gt_iff_lt, ge_iff_le, ti3, ti4, ti34, ti44, ti53, ti80]; omega) | exact fun h => h | (intro hq; rw [hq]; rfl) | (simp [SV.cellsL, SV.cells] <;> omega) | (simp_all; done)) ?_
      refine ops_nil ?_
      -- leaf L0.2t
      refine Exists.intro (k - 1) ⟨?_, ?_, ?_⟩
      · exact (by refine goes_to (tm := _) (st := _) [] rfl rfl True.intro ⟨?_, ?_, True.intro⟩ <;> first | exact sk rfl rfl | exact sk (q_int (by omega)) rfl | exact sk (q_bool (by simp)) rfl | exact sk (q_view rfl rfl rfl (by omega)) rfl | exact sk (q_gview rfl (by simp)) rfl | exact sk (q_nil rfl) rfl | exact sk (q_row (by simp)) rfl | exact sk_g rfl rfl rfl rfl | exact sk_v rfl rfl rfl rfl rfl | exact sk_n rfl)
      · try dsimp only
        refine ⟨by omega, ?_⟩
        rw [← ht]
        exact tn_step (by omega) (by simpa using c2)
      · (try dsimp only); omega
    · try simp only [Bool.or_eq_true, Bool.and_eq_true, Bool.not_eq_true', Bool.not_eq_false', Bool.or_eq_false_iff, Bool.and_eq_false_imp, decide_eq_true_eq, decide_eq_false_iff_not, Bool.not_true, Bool.not_false, beq_iff_eq, Bool.not_eq_true, Bool.not_eq_false, Bool.true_eq_false, Bool.false_eq_true, not_or, Decidable.not_not, ne_eq] at c2
      try simp only [Int.toNat_natCast, dflt_i, dflt_b, dflt_l, dflt_p, Int.toNat_zero, gt_iff_lt, ge_iff_le] at c2
      refine aw_exit ?_
      refine aw_seq ?_
      refine aw_reg _ (by kernel_rfl) rfl ?_
      iterate 4 refine stq (m := false) tabok rfl rfl (by (repeat' apply And.intro) <;> first | exact True.intro | rfl | omega | (simp only [inr, IntKind.bits, Int.toNat_natCast, dflt_i, dflt_b, dflt_l, dflt_p, Int.toNat_zero, gt_iff_lt, ge_iff_le, ti3, ti4, ti34, ti44, ti53, ti80]; omega) | exact fun h => h | (intro hq; rw [hq]; rfl) | (simp [SV.cellsL, SV.cells] <;> omega) | (simp_all; done)) ?_
      refine ops_nil ?_
      refine aw_ret ?_
      -- leaf ret.2f
      refine ret_c ?_
      have e : tn l k = k := tn_stop (by simpa using c2)
      rw [← ht, e]
      exact fs_row rfl
theorem trim_ok2 (n : Nat) (hn : (lim n).length ≤ 2000) : CS Try.prog 66 [.row TU32 (lim n)] (.row TU32 (lim n)) := by
  have h := trim_row (lim n) (by omega)
  rw [tn_self, List.take_length] at h
  exact h
theorem trim_ok (n : Nat) (hn : Sm n) : CS Try.prog 66 [.row TU32 (lim n)] (.row TU32 (lim n)) := trim_ok2 n (Nat.le_trans hn (by decide))
theorem trim_sc (g n : Nat) (l : List Int) (hn : n ≤ l.length) (hl : l.length ≤ 1000000) : SC Try.prog 66 [.view 0 g 0 n] [.obj g 80 1 [.lst TU32 l]] (.view 0 g 0 (tn l n)) [.obj g 80 1 [.lst TU32 l]] := by
  refine fn_s [2] rfl Try.func66 Try.ntmps66 rfl rfl rfl ?_
  refine aw_seq ?_
  refine aw_reg _ (by kernel_rfl) rfl ?_
  refine zst tabok rfl rfl rfl ?_
  refine ops_nil ?_
  refine aw_seq ?_
  refine aw_reg _ (by kernel_rfl) rfl ?_
  iterate 3 refine zst tabok rfl rfl rfl ?_
  refine ops_nil ?_
  refine aw_seq ?_
  refine aw_block ?_
  refine aw_loop (X := (Nat)) (fun (k : Nat) => outT (look [(0, .view 0 g 0 n), (3, .int .i64 k)])) (fun (k : Nat) => outS [.obj g 80 1 [.lst TU32 l]]) (fun (k : Nat) => (k ≤ n) ∧ (tn l k = tn l n)) (fun (k : Nat) => k) (n) ?_ ?_ ?_
  -- leaf L0:entry
  · exact (by refine goes_to (tm := _) (st := _) [true] rfl rfl ⟨?_, True.intro⟩ ⟨?_, ?_, True.intro⟩ <;> first | rfl | exact q_lst (by simp) | exact q_grow (by simp) | exact sk rfl rfl | exact sk (q_int (by omega)) rfl | exact sk (q_bool (by simp)) rfl | exact sk (q_view rfl rfl rfl (by omega)) rfl | exact sk (q_gview rfl (by simp)) rfl | exact sk (q_nil rfl) rfl | exact sk (q_row (by simp)) rfl | exact sk_g rfl rfl rfl rfl | exact sk_v rfl rfl rfl rfl rfl | exact sk_n rfl)
  · exact ⟨Nat.le_refl _, rfl⟩
  · skip
    rintro k ⟨hk, ht⟩
    change awpB _ _ _ _ _ (outT (look [(0, .view 0 g 0 n), (3, .int .i64 k)])) (outS [.obj g 80 1 [.lst TU32 l]])
    refine aw_seq ?_
    refine aw_seq ?_
    refine aw_reg _ (by kernel_rfl) rfl ?_
    iterate 3 refine zst tabok rfl rfl rfl ?_
    iterate 6 refine stg (m := false) tabok rfl rfl rfl rfl rfl (by intro hg; have hg0 := hg; (try simp only [Bool.or_eq_true, Bool.and_eq_true, Bool.not_eq_true', Bool.not_eq_false', Bool.or_eq_false_iff, Bool.and_eq_false_imp, decide_eq_true_eq, decide_eq_false_iff_not, Bool.not_true, Bool.not_false, beq_iff_eq, Bool.not_eq_true, Bool.not_eq_false, Bool.true_eq_false, Bool.false_eq_true, not_or, Decidable.not_not, ne_eq] at hg); (try simp only [Int.toNat_natCast, dflt_i, dflt_b, dflt_l, dflt_p, Int.toNat_zero, gt_iff_lt, ge_iff_le] at hg); (repeat' apply And.intro); all_goals first | exact hg0 | exact True.intro | rfl | omega | (simp only [inr]; omega) | (simp only [IntKind.bits]; omega) | (simp only [Bool.or_eq_true, Bool.and_eq_true, Bool.not_eq_true', Bool.not_eq_false', Bool.or_eq_false_iff, Bool.and_eq_false_imp, decide_eq_true_eq, decide_eq_false_iff_not, Bool.not_true, Bool.not_false, beq_iff_eq, Bool.not_eq_true, Bool.not_eq_false, Bool.true_eq_false, Bool.false_eq_true, not_or, Decidable.not_not, ne_eq]; omega) | (simp only [inr, Int.toNat_natCast, dflt_i, dflt_b, dflt_l, dflt_p, Int.toNat_zero, gt_iff_lt, ge_iff_le]; omega) | (simp only [Int.toNat_natCast, dflt_i, dflt_b, dflt_l, dflt_p, Int.toNat_zero, gt_iff_lt, ge_iff_le]; omega) | (simp only [Bool.or_eq_true, Bool.and_eq_true, Bool.not_eq_true', Bool.not_eq_false', Bool.or_eq_false_iff, Bool.and_eq_false_imp, decide_eq_true_eq, decide_eq_false_iff_not, Bool.not_true, Bool.not_false, beq_iff_eq, Bool.not_eq_true, Bool.not_eq_false, Bool.true_eq_false, Bool.false_eq_true, not_or, Decidable.not_not, ne_eq] at hg0 ⊢; simp_all; done) | (simp_all; done) | (simp_all; omega)) ?_
    refine stq (m := false) tabok rfl rfl (by (repeat' apply And.intro) <;> first | exact True.intro | rfl | omega | (simp only [inr, IntKind.bits, Int.toNat_natCast, dflt_i, dflt_b, dflt_l, dflt_p, Int.toNat_zero, gt_iff_lt, ge_iff_le, ti3, ti4, ti34, ti44, ti53, ti80]; omega) | exact fun h => h | (intro hq; rw [hq]; rfl) | (simp [SV.cellsL, SV.cells] <;> omega) | (simp_all; done)) ?_
    refine ops_nil ?_
    refine aw_if rfl (fun c2 => ?_) (fun c2 => ?_)
    · try simp only [Bool.or_eq_true, Bool.and_eq_true, Bool.not_eq_true', Bool.not_eq_false', Bool.or_eq_false_iff, Bool.and_eq_false_imp, decide_eq_true_eq, decide_eq_false_iff_not, Bool.not_true, Bool.not_false, beq_iff_eq, Bool.not_eq_true, Bool.not_eq_false, Bool.true_eq_false, Bool.false_eq_true, not_or, Decidable.not_not, ne_eq] at c2
      try simp only [Int.toNat_natCast, dflt_i, dflt_b, dflt_l, dflt_p, Int.toNat_zero, gt_iff_lt, ge_iff_le] at c2
      refine aw_skip ?_
      refine aw_block ?_
      refine aw_reg _ (by kernel_rfl) rfl ?_
      iterate 3 refine stq (m := false) tabok rfl rfl (by (repeat' apply And.intro) <;> first | exact True.intro | rfl | omega | (simp only [inr, IntKind.bits, Int.toNat_natCast, dflt_i, dflt_b, dflt_l, dflt_p, Int.toNat_zero, gt_iff_lt, ge_iff_le, ti3, ti4, ti34, ti44, ti53, ti80]; omega) | exact fun h => h | (intro hq; rw [hq]; rfl) | (simp [SV.cellsL, SV.cells] <;> omega) | (simp_all; done)) ?_
      refine ops_nil ?_
      -- leaf L0.2t
      refine Exists.intro (k - 1) ⟨?_, ?_, ?_⟩
      · exact (by refine goes_to (tm := _) (st := _) [true] rfl rfl ⟨?_, True.intro⟩ ⟨?_, ?_, True.intro⟩ <;> first | rfl | exact q_lst (by simp) | exact q_grow (by simp) | exact sk rfl rfl | exact sk (q_int (by omega)) rfl | exact sk (q_bool (by simp)) rfl | exact sk (q_view rfl rfl rfl (by omega)) rfl | exact sk (q_gview rfl (by simp)) rfl | exact sk (q_nil rfl) rfl | exact sk (q_row (by simp)) rfl | exact sk_g rfl rfl rfl rfl | exact sk_v rfl rfl rfl rfl rfl | exact sk_n rfl)
      · try dsimp only
        refine ⟨by omega, ?_⟩
        rw [← ht]
        exact tn_step (by omega) (by simpa using c2)
      · (try dsimp only); omega
    · try simp only [Bool.or_eq_true, Bool.and_eq_true, Bool.not_eq_true', Bool.not_eq_false', Bool.or_eq_false_iff, Bool.and_eq_false_imp, decide_eq_true_eq, decide_eq_false_iff_not, Bool.not_true, Bool.not_false, beq_iff_eq, Bool.not_eq_true, Bool.not_eq_false, Bool.true_eq_false, Bool.false_eq_true, not_or, Decidable.not_not, ne_eq] at c2
      try simp only [Int.toNat_natCast, dflt_i, dflt_b, dflt_l, dflt_p, Int.toNat_zero, gt_iff_lt, ge_iff_le] at c2
      refine aw_exit ?_
      refine aw_seq ?_
      refine aw_reg _ (by kernel_rfl) rfl ?_
      iterate 4 refine stq (m := false) tabok rfl rfl (by (repeat' apply And.intro) <;> first | exact True.intro | rfl | omega | (simp only [inr, IntKind.bits, Int.toNat_natCast, dflt_i, dflt_b, dflt_l, dflt_p, Int.toNat_zero, gt_iff_lt, ge_iff_le, ti3, ti4, ti34, ti44, ti53, ti80]; omega) | exact fun h => h | (intro hq; rw [hq]; rfl) | (simp [SV.cellsL, SV.cells] <;> omega) | (simp_all; done)) ?_
      refine ops_nil ?_
      refine aw_ret ?_
      -- leaf ret.2f
      have e : tn l k = k := tn_stop (by simpa using c2)
      have e2 : k = tn l n := by rw [← ht, e]
      exact ret_s [(2, .view 0 g 0 (tn l n))] ((by refine goes_to (tm := _) (st := _) [true] rfl rfl ⟨?_, True.intro⟩ ⟨(by refine sk ?_ rfl; exact q_view rfl rfl rfl e2), True.intro⟩ <;> first | rfl | exact q_lst (by simp) | exact q_grow (by simp))) rfl
end Go.Sim
end
section
namespace Go.Sim
open Go Go.Proofs
set_option maxRecDepth 10000
set_option autoImplicit false
set_option linter.unusedSimpArgs false
set_option linter.unusedVariables false
theorem norm_row (l : List Int) (v : Nat) (hl : Lim l) (hL : l.length ≤ 1000000) (hv : val l = v) : CS Try.prog 78 [.row TU32 l] (.row TU32 (lim v)) := by
  have hle := tn_le l l.length
  have htn := tn_of hl (Nat.le_refl _) (by rw [List.take_length]; exact hv)
  have hlv : (lim v).length ≤ 1000000 := by omega
  have htr := trim_row l hL
  rw [htn.1, htn.2] at htr
  refine fn_c [2] Try.func78 Try.ntmps78 rfl rfl rfl rfl ?_
  refine aw_seq ?_
  refine aw_reg _ (by kernel_rfl) rfl ?_
  refine zst tabok rfl rfl rfl ?_
  refine ops_nil ?_
  refine aw_seq ?_
  refine aw_reg _ (by kernel_rfl) rfl ?_
  refine zst tabok rfl rfl rfl ?_
  refine sc (htr) rfl rfl (by kernel_rfl) rfl (by kernel_rfl) (.cons (by first | exact argw_same | exact argw_nil | exact argw_tt | exact argw_ff | exact argw_eq rfl) .nil) ?_
  refine zst tabok rfl rfl rfl ?_
  refine ops_nil ?_
  refine aw_seq ?_
  refine aw_reg _ (by kernel_rfl) rfl ?_
  iterate 4 refine stq (m := false) tabok rfl rfl (by (repeat' apply And.intro) <;> first | exact True.intro | rfl | omega | (simp only [inr, IntKind.bits, Int.toNat_natCast, dflt_i, dflt_b, dflt_l, dflt_p, Int.toNat_zero, gt_iff_lt, ge_iff_le, ti3, ti4, ti34, ti44, ti53, ti80]; omega) | exact fun h => h | (intro hq; rw [hq]; rfl) | (simp [SV.cellsL, SV.cells] <;> omega) | (simp_all; done)) ?_
  refine ops_nil ?_
  refine aw_seq ?_
  refine aw_reg _ (by kernel_rfl) rfl ?_
  iterate 2 refine zst tabok rfl rfl rfl ?_
  refine scp tabok rfl (by kernel_rfl) rfl (by (repeat' apply And.intro); all_goals first | exact True.intro | rfl | omega | (simp only [inr]; omega) | (simp only [IntKind.bits]; omega) | exact fun h => h | (intro hq; rw [hq]; rfl) | (simp only [Int.toNat_natCast, dflt_i, dflt_b, dflt_l, dflt_p, Int.toNat_zero, gt_iff_lt, ge_iff_le]; omega) | (simp only [ti3, ti4, ti34, ti44, ti53, ti80]; omega) | (simp [ti3, ti4, ti34, ti44, ti53, ti80]; omega) | (simp_all; done) | (simp [SV.cellsL, SV.cells]; done) | (simp [SV.cellsL, SV.cells]; omega)) ?_
  refine ops_nil ?_
  refine aw_seq ?_
  refine aw_reg _ (by kernel_rfl) rfl ?_
  iterate 2 refine zst tabok rfl rfl rfl ?_
  refine ops_nil ?_
  refine aw_ret ?_
  -- leaf ret
  refine ret_c ?_
  exact fs_view rfl rfl (by simp) (by simp)
theorem norm_ok (n : Nat) (hn : Sm n) : CS Try.prog 78 [.row TU32 (lim n)] (.row TU32 (lim n)) := by
  have hn' : (lim n).length ≤ 1000 := hn
  exact norm_row _ _ (lim_Lim n) (by omega) (val_lim n)
theorem norm_sc (g n : Nat) (l : List Int) (v : Nat) (hl : Lim l) (hn : n ≤ l.length) (hL : l.length ≤ 1000000) (hv : val (l.take n) = v) : SC Try.prog 78 [.view 0 g 0 n] [.obj g 80 1 [.lst TU32 l]] (.view 1 0 0 (lim v).length) [.obj g 80 1 [.lst TU32 l], .obj 0 80 1 [.lst TU32 (lim v)]] := by
  have hle := tn_le l n
  have htn := tn_of hl hn hv
  refine fn_s [2] rfl Try.func78 Try.ntmps78 rfl rfl rfl ?_
  refine aw_seq ?_
  refine aw_reg _ (by kernel_rfl) rfl ?_
  refine zst tabok rfl rfl rfl ?_
  refine ops_nil ?_
  refine aw_seq ?_
  refine aw_reg _ (by kernel_rfl) rfl ?_
  refine zst tabok rfl rfl rfl ?_
  refine sca [0] (trim_sc g n l hn hL) rfl rfl (by kernel_rfl) rfl (by kernel_rfl) rfl rfl rfl rfl rfl rfl rfl rfl rfl rfl ⟨(by first | rfl | exact q_obj rfl), True.intro⟩ (.cons (by first | exact argw_same | exact argw_nil | exact argw_tt | exact argw_ff | exact argw_eq rfl) .nil) ?_
  refine zst tabok rfl rfl rfl ?_
  refine ops_nil ?_
  refine aw_seq ?_
  refine aw_reg _ (by kernel_rfl) rfl ?_
  iterate 4 refine stq (m := false) tabok rfl rfl (by (repeat' apply And.intro) <;> first | exact True.intro | rfl | omega | (simp only [inr, IntKind.bits, Int.toNat_natCast, dflt_i, dflt_b, dflt_l, dflt_p, Int.toNat_zero, gt_iff_lt, ge_iff_le, ti3, ti4, ti34, ti44, ti53, ti80]; omega) | exact fun h => h | (intro hq; rw [hq]; rfl) | (simp [SV.cellsL, SV.cells] <;> omega) | (simp_all; done)) ?_
  refine ops_nil ?_
  refine aw_seq ?_
  refine aw_reg _ (by kernel_rfl) rfl ?_
  iterate 2 refine zst tabok rfl rfl rfl ?_
  refine scp tabok rfl (by kernel_rfl) rfl (by (repeat' apply And.intro); all_goals first | exact True.intro | rfl | omega | (simp only [inr]; omega) | (simp only [IntKind.bits]; omega) | exact fun h => h | (intro hq; rw [hq]; rfl) | (simp only [Int.toNat_natCast, dflt_i, dflt_b, dflt_l, dflt_p, Int.toNat_zero, gt_iff_lt, ge_iff_le]; omega) | (simp only [ti3, ti4, ti34, ti44, ti53, ti80]; omega) | (simp [ti3, ti4, ti34, ti44, ti53, ti80]; omega) | (simp_all; done) | (simp [SV.cellsL, SV.cells]; done) | (simp [SV.cellsL, SV.cells]; omega)) ?_
  refine ops_nil ?_
  refine aw_seq ?_
  refine aw_reg _ (by kernel_rfl) rfl ?_
  iterate 2 refine zst tabok rfl rfl rfl ?_
  refine ops_nil ?_
  refine aw_ret ?_
  -- leaf ret
  exact ret_s [(2, .view 1 0 0 (lim v).length)] ((by refine goes_to (tm := _) (st := _) [true, true] rfl rfl ⟨?_, (by exact q_lst (by rw [htn.1, htn.2]; simp)), True.intro⟩ ⟨(by refine sk ?_ rfl; exact q_view rfl rfl rfl htn.1), True.intro⟩ <;> first | rfl | exact q_lst (by simp) | exact q_grow (by simp))) rfl
theorem of_ok (n : Nat) (hn : n < 18446744073709551616) : CS Try.prog 77 [.int .u64 (n : Int)] (.row TU32 (lim n)) := by
  refine fn_c [2] Try.func77 Try.ntmps77 rfl rfl rfl rfl ?_
  refine aw_seq ?_
  refine aw_reg _ (by kernel_rfl) rfl ?_
  refine zst tabok rfl rfl rfl ?_
  refine ops_nil ?_
  refine aw_seq ?_
  refine aw_reg _ (by kernel_rfl) rfl ?_
  refine zst tabok rfl rfl rfl ?_
  refine st (m := true) tabok rfl rfl rfl (by (repeat' apply And.intro); all_goals first | exact True.intro | rfl | omega | (simp only [inr]; omega) | (simp only [IntKind.bits]; omega) | exact fun h => h | (intro hq; rw [hq]; rfl) | (simp only [Int.toNat_natCast, dflt_i, dflt_b, dflt_l, dflt_p, Int.toNat_zero, gt_iff_lt, ge_iff_le]; omega) | (simp only [ti3, ti4, ti34, ti44, ti53, ti80]; omega) | (simp [ti3, ti4, ti34, ti44, ti53, ti80]; omega) | (simp_all; done) | (simp [SV.cellsL, SV.cells]; done) | (simp [SV.cellsL, SV.cells]; omega)) ?_
  iterate 2 refine stq (m := false) tabok rfl rfl (by (repeat' apply And.intro) <;> first | exact True.intro | rfl | omega | (simp only [inr, IntKind.bits, Int.toNat_natCast, dflt_i, dflt_b, dflt_l, dflt_p, Int.toNat_zero, gt_iff_lt, ge_iff_le, ti3, ti4, ti34, ti44, ti53, ti80]; omega) | exact fun h => h | (intro hq; rw [hq]; rfl) | (simp [SV.cellsL, SV.cells] <;> omega) | (simp_all; done)) ?_
  refine st (m := true) tabok rfl rfl rfl (by (repeat' apply And.intro); all_goals first | exact True.intro | rfl | omega | (simp only [inr]; omega) | (simp only [IntKind.bits]; omega) | exact fun h => h | (intro hq; rw [hq]; rfl) | (simp only [Int.toNat_natCast, dflt_i, dflt_b, dflt_l, dflt_p, Int.toNat_zero, gt_iff_lt, ge_iff_le]; omega) | (simp only [ti3, ti4, ti34, ti44, ti53, ti80]; omega) | (simp [ti3, ti4, ti34, ti44, ti53, ti80]; omega) | (simp_all; done) | (simp [SV.cellsL, SV.cells]; done) | (simp [SV.cellsL, SV.cells]; omega)) ?_
  refine stb tabok rfl rfl (by kernel_rfl) rfl ?_
  refine sc (norm_row [IntKind.wrap .u32 (n : Int), IntKind.wrap .u32 ((n : Int) / 2 ^ 32)] n (of_lim n).1 (by simp) ((of_lim n).2 hn)) rfl rfl (by kernel_rfl) rfl (by kernel_rfl) (.cons (by first | exact argw_same | exact argw_nil | exact argw_tt | exact argw_ff | exact argw_eq rfl) .nil) ?_
  refine zst tabok rfl rfl rfl ?_
  refine ops_nil ?_
  refine aw_ret ?_
  -- leaf ret
  refine ret_c ?_
  first | exact fs rfl | exact fs_tt (by simp_all) | exact fs_ff (by simp_all) | exact fs_bool (by simp_all) | exact fs_int (by simp_all) | exact fs_nil (by simp_all)
theorem cmp_ok2 (a b : Nat) (ha' : (lim a).length ≤ 2000) (hb' : (lim b).length ≤ 2000) : CS Try.prog 75 [.row TU32 (lim a), .row TU32 (lim b)] (.int .i64 (cmpI a b)) := by
  refine fn_c [4] Try.func75 Try.ntmps75 rfl rfl rfl rfl ?_
  refine aw_seq ?_
  refine aw_reg _ (by kernel_rfl) rfl ?_
  refine zst tabok rfl rfl rfl ?_
  refine ops_nil ?_
  refine aw_seq ?_
  refine aw_reg _ (by kernel_rfl) rfl ?_
  refine zst tabok rfl rfl rfl ?_
  refine sc (trim_ok2 a ha') rfl rfl (by kernel_rfl) rfl (by kernel_rfl) (.cons (by first | exact argw_same | exact argw_nil | exact argw_tt | exact argw_ff | exact argw_eq rfl) .nil) ?_
  refine zst tabok rfl rfl rfl ?_
  refine sc (trim_ok2 b hb') rfl rfl (by kernel_rfl) rfl (by kernel_rfl) (.cons (by first | exact argw_same | exact argw_nil | exact argw_tt | exact argw_ff | exact argw_eq rfl) .nil) ?_
  iterate 2 refine zst tabok rfl rfl rfl ?_
  refine ops_nil ?_
  refine aw_seq ?_
  refine aw_seq ?_
  refine aw_reg _ (by kernel_rfl) rfl ?_
  iterate 5 refine zst tabok rfl rfl rfl ?_
  refine ops_nil ?_
  refine aw_if rfl (fun c2 => ?_) (fun c2 => ?_)
  · try simp only [Bool.or_eq_true, Bool.and_eq_true, Bool.not_eq_true', Bool.not_eq_false', Bool.or_eq_false_iff, Bool.and_eq_false_imp, decide_eq_true_eq, decide_eq_false_iff_not, Bool.not_true, Bool.not_false, beq_iff_eq, Bool.not_eq_true, Bool.not_eq_false, Bool.true_eq_false, Bool.false_eq_true, not_or, Decidable.not_not, ne_eq] at c2
    try simp only [Int.toNat_natCast, dflt_i, dflt_b, dflt_l, dflt_p, Int.toNat_zero, gt_iff_lt, ge_iff_le] at c2
    refine aw_seq ?_
    refine aw_seq ?_
    refine aw_reg _ (by kernel_rfl) rfl ?_
    iterate 5 refine zst tabok rfl rfl rfl ?_
    refine ops_nil ?_
    refine aw_if rfl (fun c3 => ?_) (fun c3 => ?_)
    · try simp only [Bool.or_eq_true, Bool.and_eq_true, Bool.not_eq_true', Bool.not_eq_false', Bool.or_eq_false_iff, Bool.and_eq_false_imp, decide_eq_true_eq, decide_eq_false_iff_not, Bool.not_true, Bool.not_false, beq_iff_eq, Bool.not_eq_true, Bool.not_eq_false, Bool.true_eq_false, Bool.false_eq_true, not_or, Decidable.not_not, ne_eq] at c3
      try simp only [Int.toNat_natCast, dflt_i, dflt_b, dflt_l, dflt_p, Int.toNat_zero, gt_iff_lt, ge_iff_le] at c3
      refine aw_seq ?_
      refine aw_reg _ (by kernel_rfl) rfl ?_
      refine zst tabok rfl rfl rfl ?_
      refine ops_nil ?_
      refine aw_ret ?_
      -- leaf ret.2t.3t
      refine ret_c ?_
      exact fs_int (cmp_len_lt (by omega)).symm
    · try simp only [Bool.or_eq_true, Bool.and_eq_true, Bool.not_eq_true', Bool.not_eq_false', Bool.or_eq_false_iff, Bool.and_eq_false_imp, decide_eq_true_eq, decide_eq_false_iff_not, Bool.not_true, Bool.not_false, beq_iff_eq, Bool.not_eq_true, Bool.not_eq_false, Bool.true_eq_false, Bool.false_eq_true, not_or, Decidable.not_not, ne_eq] at c3
      try simp only [Int.toNat_natCast, dflt_i, dflt_b, dflt_l, dflt_p, Int.toNat_zero, gt_iff_lt, ge_iff_le] at c3
      refine aw_skip ?_
      refine aw_seq ?_
      refine aw_reg _ (by kernel_rfl) rfl ?_
      refine zst tabok rfl rfl rfl ?_
      refine ops_nil ?_
      refine aw_ret ?_
      -- leaf ret.2t.3f
      refine ret_c ?_
      exact fs_int (cmp_len_gt (by omega)).symm
  · try simp only [Bool.or_eq_true, Bool.and_eq_true, Bool.not_eq_true', Bool.not_eq_false', Bool.or_eq_false_iff, Bool.and_eq_false_imp, decide_eq_true_eq, decide_eq_false_iff_not, Bool.not_true, Bool.not_false, beq_iff_eq, Bool.not_eq_true, Bool.not_eq_false, Bool.true_eq_false, Bool.false_eq_true, not_or, Decidable.not_not, ne_eq] at c2
    try simp only [Int.toNat_natCast, dflt_i, dflt_b, dflt_l, dflt_p, Int.toNat_zero, gt_iff_lt, ge_iff_le] at c2
    refine aw_skip ?_
    refine aw_seq ?_
    refine aw_seq ?_
    refine aw_reg _ (by kernel_rfl) rfl ?_
    iterate 4 refine stq (m := false) tabok rfl rfl (by (repeat' apply And.intro) <;> first | exact True.intro | rfl | omega | (simp only [inr, IntKind.bits, Int.toNat_natCast, dflt_i, dflt_b, dflt_l, dflt_p, Int.toNat_zero, gt_iff_lt, ge_iff_le, ti3, ti4, ti34, ti44, ti53, ti80]; omega) | exact fun h => h | (intro hq; rw [hq]; rfl) | (simp [SV.cellsL, SV.cells] <;> omega) | (simp_all; done)) ?_
    refine ops_nil ?_
    refine aw_block ?_
    refine aw_loop (X := (Nat)) (fun (i : Nat) => outT (look [(0, .row TU32 (lim a)), (1, .row TU32 (lim b)), (5, .int .i64 ((i : Int) - 1))])) (fun (i : Nat) => outS []) (fun (i : Nat) => (i ≤ (lim a).length) ∧ ((lim a).drop i = (lim b).drop i)) (fun (i : Nat) => i) ((lim a).length) ?_ ?_ ?_
    -- leaf L0:entry.2f
    · exact (by refine goes_to (tm := _) (st := _) [] rfl rfl True.intro ⟨?_, ?_, ?_, True.intro⟩ <;> first | exact sk rfl rfl | exact sk (q_int (by omega)) rfl | exact sk (q_bool (by simp)) rfl | exact sk (q_view rfl rfl rfl (by omega)) rfl | exact sk (q_gview rfl (by simp)) rfl | exact sk (q_nil rfl) rfl | exact sk (q_row (by simp)) rfl | exact sk_g rfl rfl rfl rfl | exact sk_v rfl rfl rfl rfl rfl | exact sk_n rfl)
    · refine ⟨Nat.le_refl _, ?_⟩
      rw [List.drop_eq_nil_of_le (Nat.le_refl _), List.drop_eq_nil_of_le (by omega)]
    · skip
      rintro i ⟨hi, hd⟩
      change awpB _ _ _ _ _ (outT (look [(0, .row TU32 (lim a)), (1, .row TU32 (lim b)), (5, .int .i64 ((i : Int) - 1))])) (outS [])
      refine aw_seq ?_
      refine aw_seq ?_
      refine aw_reg _ (by kernel_rfl) rfl ?_
      iterate 2 refine zst tabok rfl rfl rfl ?_
      refine ops_nil ?_
      refine aw_if rfl (fun c7 => ?_) (fun c7 => ?_)
      · try simp only [Bool.or_eq_true, Bool.and_eq_true, Bool.not_eq_true', Bool.not_eq_false', Bool.or_eq_false_iff, Bool.and_eq_false_imp, decide_eq_true_eq, decide_eq_false_iff_not, Bool.not_true, Bool.not_false, beq_iff_eq, Bool.not_eq_true, Bool.not_eq_false, Bool.true_eq_false, Bool.false_eq_true, not_or, Decidable.not_not, ne_eq] at c7
        try simp only [Int.toNat_natCast, dflt_i, dflt_b, dflt_l, dflt_p, Int.toNat_zero, gt_iff_lt, ge_iff_le] at c7
        refine aw_skip ?_
        refine aw_seq ?_
        refine aw_block ?_
        refine aw_seq ?_
        refine aw_regD true _ (by kernel_rfl) (by kernel_rfl) (by kernel_rfl) rfl ?_
        iterate 9 refine sdq (m := false) tabok rfl rfl (by (repeat' apply And.intro) <;> first | exact True.intro | rfl | omega | (simp only [inr, IntKind.bits, Int.toNat_natCast, dflt_i, dflt_b, dflt_l, dflt_p, Int.toNat_zero, gt_iff_lt, ge_iff_le, ti3, ti4, ti34, ti44, ti53, ti80]; omega) | exact fun h => h | (intro hq; rw [hq]; rfl) | (simp [SV.cellsL, SV.cells] <;> omega) | (simp_all; done)) ?_
        refine opd_nil ?_
        refine aw_if rfl (fun c9 => ?_) (fun c9 => ?_)
        · try simp only [Bool.or_eq_true, Bool.and_eq_true, Bool.not_eq_true', Bool.not_eq_false', Bool.or_eq_false_iff, Bool.and_eq_false_imp, decide_eq_true_eq, decide_eq_false_iff_not, Bool.not_true, Bool.not_false, beq_iff_eq, Bool.not_eq_true, Bool.not_eq_false, Bool.true_eq_false, Bool.false_eq_true, not_or, Decidable.not_not, ne_eq] at c9
          try simp only [Int.toNat_natCast, dflt_i, dflt_b, dflt_l, dflt_p, Int.toNat_zero, gt_iff_lt, ge_iff_le] at c9
          refine aw_seq ?_
          refine aw_seq ?_
          refine aw_regD true _ (by kernel_rfl) (by kernel_rfl) (by kernel_rfl) rfl ?_
          iterate 9 refine sdq (m := false) tabok rfl rfl (by (repeat' apply And.intro) <;> first | exact True.intro | rfl | omega | (simp only [inr, IntKind.bits, Int.toNat_natCast, dflt_i, dflt_b, dflt_l, dflt_p, Int.toNat_zero, gt_iff_lt, ge_iff_le, ti3, ti4, ti34, ti44, ti53, ti80]; omega) | exact fun h => h | (intro hq; rw [hq]; rfl) | (simp [SV.cellsL, SV.cells] <;> omega) | (simp_all; done)) ?_
          refine opd_nil ?_
          refine aw_if rfl (fun c10 => ?_) (fun c10 => ?_)
          · try simp only [Bool.or_eq_true, Bool.and_eq_true, Bool.not_eq_true', Bool.not_eq_false', Bool.or_eq_false_iff, Bool.and_eq_false_imp, decide_eq_true_eq, decide_eq_false_iff_not, Bool.not_true, Bool.not_false, beq_iff_eq, Bool.not_eq_true, Bool.not_eq_false, Bool.true_eq_false, Bool.false_eq_true, not_or, Decidable.not_not, ne_eq] at c10
            try simp only [Int.toNat_natCast, dflt_i, dflt_b, dflt_l, dflt_p, Int.toNat_zero, gt_iff_lt, ge_iff_le] at c10
            refine aw_seq ?_
            refine aw_reg _ (by kernel_rfl) rfl ?_
            refine zst tabok rfl rfl rfl ?_
            refine ops_nil ?_
            refine aw_ret ?_
            -- leaf ret.7t.9t.10t
            refine ret_c ?_
            exact fs_int (cmp_lt (i := i) (by omega) (by omega) hd (by simpa using c10)).symm
          · try simp only [Bool.or_eq_true, Bool.and_eq_true, Bool.not_eq_true', Bool.not_eq_false', Bool.or_eq_false_iff, Bool.and_eq_false_imp, decide_eq_true_eq, decide_eq_false_iff_not, Bool.not_true, Bool.not_false, beq_iff_eq, Bool.not_eq_true, Bool.not_eq_false, Bool.true_eq_false, Bool.false_eq_true, not_or, Decidable.not_not, ne_eq] at c10
            try simp only [Int.toNat_natCast, dflt_i, dflt_b, dflt_l, dflt_p, Int.toNat_zero, gt_iff_lt, ge_iff_le] at c10
            refine aw_skip ?_
            refine aw_seq ?_
            refine aw_reg _ (by kernel_rfl) rfl ?_
            refine zst tabok rfl rfl rfl ?_
            refine ops_nil ?_
            refine aw_ret ?_
            -- leaf ret.7t.9t.10f
            refine ret_c ?_
            exact fs_int (cmp_gt (i := i) (by omega) (by omega) hd (by simpa using c9) (by simpa using c10)).symm
        · try simp only [Bool.or_eq_true, Bool.and_eq_true, Bool.not_eq_true', Bool.not_eq_false', Bool.or_eq_false_iff, Bool.and_eq_false_imp, decide_eq_true_eq, decide_eq_false_iff_not, Bool.not_true, Bool.not_false, beq_iff_eq, Bool.not_eq_true, Bool.not_eq_false, Bool.true_eq_false, Bool.false_eq_true, not_or, Decidable.not_not, ne_eq] at c9
          try simp only [Int.toNat_natCast, dflt_i, dflt_b, dflt_l, dflt_p, Int.toNat_zero, gt_iff_lt, ge_iff_le] at c9
          refine aw_skip ?_
          refine aw_reg _ (by kernel_rfl) rfl ?_
          iterate 3 refine stq (m := false) tabok rfl rfl (by (repeat' apply And.intro) <;> first | exact True.intro | rfl | omega | (simp only [inr, IntKind.bits, Int.toNat_natCast, dflt_i, dflt_b, dflt_l, dflt_p, Int.toNat_zero, gt_iff_lt, ge_iff_le, ti3, ti4, ti34, ti44, ti53, ti80]; omega) | exact fun h => h | (intro hq; rw [hq]; rfl) | (simp [SV.cellsL, SV.cells] <;> omega) | (simp_all; done)) ?_
          refine ops_nil ?_
          -- leaf L0.7t.9f
          refine Exists.intro (i - 1) ⟨?_, ?_, ?_⟩
          · exact (by refine goes_to (tm := _) (st := _) [] rfl rfl True.intro ⟨?_, ?_, ?_, True.intro⟩ <;> first | exact sk rfl rfl | exact sk (q_int (by omega)) rfl | exact sk (q_bool (by simp)) rfl | exact sk (q_view rfl rfl rfl (by omega)) rfl | exact sk (q_gview rfl (by simp)) rfl | exact sk (q_nil rfl) rfl | exact sk (q_row (by simp)) rfl | exact sk_g rfl rfl rfl rfl | exact sk_v rfl rfl rfl rfl rfl | exact sk_n rfl)
          · try dsimp only
            refine ⟨by omega, cmp_same (by omega) (by omega) hd (by simpa using c9)⟩
          · (try dsimp only); omega
      · try simp only [Bool.or_eq_true, Bool.and_eq_true, Bool.not_eq_true', Bool.not_eq_false', Bool.or_eq_false_iff, Bool.and_eq_false_imp, decide_eq_true_eq, decide_eq_false_iff_not, Bool.not_true, Bool.not_false, beq_iff_eq, Bool.not_eq_true, Bool.not_eq_false, Bool.true_eq_false, Bool.false_eq_true, not_or, Decidable.not_not, ne_eq] at c7
        try simp only [Int.toNat_natCast, dflt_i, dflt_b, dflt_l, dflt_p, Int.toNat_zero, gt_iff_lt, ge_iff_le] at c7
        refine aw_exit ?_
        refine aw_seq ?_
        refine aw_reg _ (by kernel_rfl) rfl ?_
        refine zst tabok rfl rfl rfl ?_
        refine ops_nil ?_
        refine aw_ret ?_
        -- leaf ret.7f
        refine ret_c ?_
        have e : i = 0 := by omega
        subst e
        exact fs_int (cmp_eq hd).symm
theorem cmp_ok (a b : Nat) (ha : Sm a) (hb : Sm b) : CS Try.prog 75 [.row TU32 (lim a), .row TU32 (lim b)] (.int .i64 (cmpI a b)) := cmp_ok2 a b (Nat.le_trans ha (by decide)) (Nat.le_trans hb (by decide))
end Go.Sim
end
