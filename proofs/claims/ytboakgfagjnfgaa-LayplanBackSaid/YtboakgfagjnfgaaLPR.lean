/- A part of the proof: the walks of this law's functions. -/
import Derived.Test.YtboakgfagjnfgaaLP5
set_option autoImplicit false
set_option linter.unusedSimpArgs false
set_option linter.unusedVariables false
namespace Go.Sim
open Go

/-! ### the plain law of the search -/
def sumN (f : Nat → Int) : Nat → Int
  | 0 => 0
  | n + 1 => sumN f n + f n
theorem sumN_congr {f g : Nat → Int} : ∀ {n : Nat}, (∀ j, j < n → f j = g j) → sumN f n = sumN g n
  | 0, _ => rfl
  | n + 1, h => by rw [sumN, sumN, sumN_congr fun j hj => h j (by omega), h n (by omega)]
theorem sumN_le {f g : Nat → Int} : ∀ {n : Nat}, (∀ j, j < n → f j ≤ g j) → sumN f n ≤ sumN g n
  | 0, _ => Int.le_refl _
  | n + 1, h => by
    have h1 := sumN_le (n := n) fun j hj => h j (by omega)
    have h2 := h n (by omega)
    simp only [sumN]
    omega
theorem sumN_add (f : Nat → Int) (a : Nat) : ∀ b, sumN f (a + b) = sumN f a + sumN (fun j => f (a + j)) b
  | 0 => by simp [sumN]
  | b + 1 => by
    have := sumN_add f a b
    show sumN f (a + b) + f (a + b) = _
    rw [this]
    simp only [sumN]
    omega
theorem sumN_upd (f : Nat → Int) (k : Nat) (x : Int) : ∀ n, sumN (fun j => if j = k then f j + x else f j) n = sumN f n + if k < n then x else 0
  | 0 => by simp [sumN]
  | n + 1 => by
    simp only [sumN, sumN_upd f k x n]
    by_cases h : n = k
    · subst h; simp; omega
    · have e : (k < n + 1) = (k < n) := by apply propext; omega
      rw [if_neg h]
      simp only [e]
      omega
theorem sumN_zero {f : Nat → Int} {n : Nat} (h : ∀ j, j < n → f j = 0) : sumN f n = 0 := by
  rw [sumN_congr (g := fun _ => 0) h]
  clear h
  induction n with
  | zero => rfl
  | succ n ih => simp [sumN, ih]
def madeF (m : List Mix) (p : Nat → Int) (i : Nat) : Int := sumN (fun j => p j * nOf m j i) m.length
def costF (m : List Mix) (p : Nat → Int) : Int := sumN (fun j => p j * lOf m j) m.length
def Pl (m : List Mix) (mo : Int) (q : Nat → Int) : Prop := ∀ j, j < m.length → 0 ≤ q j ∧ q j ≤ mo
def Fe (m : List Mix) (o : List Int) (ov : Int) (q : Nat → Int) : Prop := ∀ i, i < o.length → o.getD i 0 ≤ madeF m q i ∧ madeF m q i ≤ o.getD i 0 + ov

/-! ranks -/
def rk (B : Nat) (p : Nat → Int) : Nat → Nat
  | 0 => 0
  | j + 1 => rk B p j * B + (p j).toNat
theorem rk_congr {B : Nat} {p q : Nat → Int} : ∀ {n : Nat}, (∀ j, j < n → p j = q j) → rk B p n = rk B q n
  | 0, _ => rfl
  | n + 1, h => by rw [rk, rk, rk_congr fun j hj => h j (by omega), h n (by omega)]
theorem dig {x a B : Nat} {y : Nat} (ha : a < B) (h : x < y) : x * B + a < y * B := by
  have := Nat.mul_le_mul_right B (show x + 1 ≤ y from h)
  rw [Nat.add_mul] at this
  omega
theorem rk_lt {B : Nat} {p : Nat → Int} : ∀ {n : Nat}, (∀ j, j < n → (p j).toNat < B) → rk B p n < B ^ n
  | 0, _ => by simp [rk]
  | n + 1, h => by
    rw [rk, Nat.pow_succ]
    exact dig (h n (by omega)) (rk_lt fun j hj => h j (by omega))
theorem rk_split (B : Nat) (p : Nat → Int) (n : Nat) : ∀ t, rk B p (n + t) = rk B p n * B ^ t + rk B (fun j => p (n + j)) t
  | 0 => by simp [rk]
  | t + 1 => by
    have := rk_split B p n t
    show rk B p (n + t) * B + (p (n + t)).toNat = _
    rw [this, Nat.pow_succ, Nat.add_mul, Nat.mul_assoc]
    simp only [rk]
    omega
theorem rk_inj {B : Nat} {p q : Nat → Int} : ∀ {n : Nat}, (∀ j, j < n → (p j).toNat < B) → (∀ j, j < n → (q j).toNat < B) → rk B p n = rk B q n → ∀ j, j < n → (p j).toNat = (q j).toNat
  | 0, _, _, _, j, hj => by omega
  | n + 1, hp, hq, h, j, hj => by
    simp only [rk] at h
    have h1 := hp n (by omega)
    have h2 := hq n (by omega)
    have e : rk B p n = rk B q n := by
      rcases Nat.lt_trichotomy (rk B p n) (rk B q n) with h3 | h3 | h3
      · have := dig h1 h3; omega
      · exact h3
      · have := dig h2 h3; omega
    by_cases hn : j = n
    · subst hn; rw [e] at h; omega
    · exact rk_inj (fun j hj => hp j (by omega)) (fun j hj => hq j (by omega)) e j (by omega)
/-- The rank's beginning. -/
theorem rk_mid {B : Nat} {q : Nat → Int} {M n a : Nat} (hn : n ≤ M) (hq : ∀ j, j < M → (q j).toNat < B) : rk B q M < (rk B q n + 1) * B ^ (M - n) ∧ rk B q n * B ^ (M - n) ≤ rk B q M := by
  have h := rk_split B q n (M - n)
  rw [show n + (M - n) = M by omega] at h
  have h2 := rk_lt (B := B) (p := fun j => q (n + j)) (n := M - n) fun j hj => hq _ (by omega)
  rw [h, Nat.add_mul]
  omega
theorem rk_pre {B : Nat} {q : Nat → Int} {M n a : Nat} (hn : n ≤ M) (hq : ∀ j, j < M → (q j).toNat < B) (h1 : a * B ^ (M - n) ≤ rk B q M) (h2 : rk B q M < (a + 1) * B ^ (M - n)) : rk B q n = a := by
  obtain ⟨h3, h4⟩ := rk_mid (a := 0) hn hq
  rcases Nat.lt_trichotomy (rk B q n) a with h | h | h
  · have := Nat.mul_le_mul_right (B ^ (M - n)) (show rk B q n + 1 ≤ a from h)
    omega
  · exact h
  · have := Nat.mul_le_mul_right (B ^ (M - n)) (show a + 1 ≤ rk B q n from h)
    omega

section
variable {m : List Mix} {o : List Int} {ov mo : Int}
theorem pl_dig {q : Nat → Int} (h : Pl m mo q) : ∀ j, j < m.length → (q j).toNat < mo.toNat + 1 := fun j hj => by
  have := h j hj
  omega

structure Opt (m : List Mix) (o : List Int) (ov mo : Int) (t : Nat) (nb : Bool) (b : List Int) (le : Int) : Prop where
  all : ∀ q, Pl m mo q → Fe m o ov q → rk (mo.toNat + 1) q m.length < t → nb = false ∧ (le < costF m q ∨ (le = costF m q ∧ rk (mo.toNat + 1) (fun j => b.getD j 0) m.length ≤ rk (mo.toNat + 1) q m.length))
  is : nb = false → Pl m mo (fun j => b.getD j 0) ∧ Fe m o ov (fun j => b.getD j 0) ∧ costF m (fun j => b.getD j 0) = le ∧ b.length = m.length ∧ rk (mo.toNat + 1) (fun j => b.getD j 0) m.length < t
  no : nb = true → b = [] ∧ le = 0

theorem opt_skip {t t' : Nat} {nb : Bool} {b : List Int} {le : Int} (ht : t ≤ t') (h : Opt m o ov mo t nb b le)
    (hq : ∀ q, Pl m mo q → Fe m o ov q → t ≤ rk (mo.toNat + 1) q m.length → rk (mo.toNat + 1) q m.length < t' → nb = false ∧ le ≤ costF m q) : Opt m o ov mo t' nb b le := by
  refine ⟨fun q h1 h2 h3 => ?_, fun hn => ?_, h.no⟩
  · by_cases hr : rk (mo.toNat + 1) q m.length < t
    · exact h.all q h1 h2 hr
    · obtain ⟨h4, h5⟩ := hq q h1 h2 (by omega) h3
      refine ⟨h4, ?_⟩
      have := (h.is h4).2.2.2.2
      rcases Int.lt_or_le le (costF m q) with h6 | h6
      · exact .inl h6
      · exact .inr ⟨by omega, by omega⟩
  · obtain ⟨h1, h2, h3, h4, h5⟩ := h.is hn
    exact ⟨h1, h2, h3, h4, by omega⟩
theorem range_getD (p : Nat → Int) (n j : Nat) (h : j < n) : ((List.range n).map p).getD j 0 = p j := getD_map_range _ _ h
theorem fe_congr {p q : Nat → Int} (h : ∀ j, j < m.length → p j = q j) (hf : Fe m o ov p) : Fe m o ov q := fun i hi => by
  have : madeF m q i = madeF m p i := sumN_congr fun j hj => by rw [h j hj]
  rw [this]
  exact hf i hi
theorem cost_congr {p q : Nat → Int} (h : ∀ j, j < m.length → p j = q j) : costF m p = costF m q := sumN_congr fun j hj => by rw [h j hj]
theorem opt_keep {p : Nat → Int} {nb : Bool} {b : List Int} {le : Int} (h : Opt m o ov mo (rk (mo.toNat + 1) p m.length) nb b le) (hp : Pl m mo p) (hf : Fe m o ov p) (hc : nb = true ∨ costF m p < le) :
    Opt m o ov mo (rk (mo.toNat + 1) p m.length + 1) false ((List.range m.length).map p) (costF m p) := by
  have hg : ∀ j, j < m.length → p j = ((List.range m.length).map p).getD j 0 := fun j hj => (range_getD p _ j hj).symm
  have hr : rk (mo.toNat + 1) (fun j => ((List.range m.length).map p).getD j 0) m.length = rk (mo.toNat + 1) p m.length := rk_congr fun j hj => (hg j hj).symm
  refine ⟨fun q h1 h2 h3 => ⟨rfl, ?_⟩, fun _ => ⟨fun j hj => by dsimp only; rw [← hg j hj]; exact hp j hj, fe_congr hg hf, (cost_congr hg).symm, by simp, by omega⟩, fun h => by cases h⟩
  rw [hr]
  by_cases hq : rk (mo.toNat + 1) q m.length < rk (mo.toNat + 1) p m.length
  · obtain ⟨h4, h5⟩ := h.all q h1 h2 hq
    rcases hc with hc | hc
    · rw [hc] at h4; cases h4
    · omega
  · have e : rk (mo.toNat + 1) p m.length = rk (mo.toNat + 1) q m.length := by omega
    refine .inr ⟨cost_congr fun j hj => ?_, by omega⟩
    have := rk_inj (pl_dig hp) (pl_dig h1) e j hj
    have := hp j hj
    have := h1 j hj
    omega

theorem madeF_le (h : Tsk m o ov mo) {p q : Nat → Int} (hpq : ∀ j, j < m.length → p j ≤ q j) (i : Nat) : madeF m p i ≤ madeF m q i :=
  sumN_le fun j hj => Int.mul_le_mul_of_nonneg_right (hpq j hj) (h.hn j i).1
theorem exc_no (h : Tsk m o ov mo) {p q : Nat → Int} (hpq : ∀ j, j < m.length → p j ≤ q j) (he : exc o ov (madeF m p) = true) (hf : Fe m o ov q) : False := by
  obtain ⟨i, hi, h1⟩ := exc_iff.1 he
  have h2 := madeF_le h hpq i
  have h3 := hf i hi
  omega

/-! what is still to be had -/
theorem cap_ge {R : List Mix} {i : Nat} {q : Nat → Int} (hn : ∀ j, 0 ≤ nOf R j i) (hq : ∀ j, j < R.length → 0 ≤ q j ∧ q j ≤ mo) : ∀ t, t ≤ R.length → sumN (fun j => q j * nOf R j i) t ≤ capN R i mo t
  | 0, _ => by simp [sumN, capN]
  | t + 1, ht => by
    have h1 := cap_ge hn hq t (by omega)
    have h2 := hq t (by omega)
    rw [capN_s]
    simp only [sumN]
    split
    · have := Int.mul_le_mul_of_nonneg_right h2.2 (hn t)
      rw [Int.mul_comm mo] at this
      omega
    · have : nOf R t i = 0 := by have := hn t; omega
      rw [this]
      omega
theorem ch_min {R : List Mix} {i : Nat} {left : Int} (hn : ∀ j, 0 ≤ nOf R j i ∧ nOf R j i ≤ 6) (hl : ∀ j, j < R.length → 1 ≤ lOf R j ∧ lOf R j ≤ 1048576) (h0 : left ≤ 1000) (h1 : 0 < left) : ∀ t, t ≤ R.length → ∀ j, j < t → 0 < nOf R j i → 1 ≤ chN R i left t ∧ chN R i left t ≤ priceN R i left j
  | 0, _, j, hj, _ => by omega
  | t + 1, ht, j, hj, hnj => by
    have ih := ch_min hn hl h0 h1 t (by omega)
    have hr := chN_rng hn hl h0 h1 t (by omega)
    rw [chN_s]
    have hpr : 0 < nOf R t i → 1 ≤ priceN R i left t := fun hc => by
      have h2 := hl t (by omega)
      have h3 := Int.mul_le_mul (show (1 : Int) ≤ left by omega) h2.1 (by omega) (by omega)
      unfold priceN
      rw [Int.le_ediv_iff_mul_le hc]
      omega
    split
    · rename_i hc
      refine ⟨hpr hc.1, ?_⟩
      by_cases e : j = t
      · subst e; exact Int.le_refl _
      · have := ih j (by omega) hnj
        rcases hc.2 with h | h <;> omega
    · rename_i hc
      by_cases e : j = t
      · subst e
        have : ¬ (chN R i left j = 0 ∨ priceN R i left j < chN R i left j) := fun h => hc ⟨hnj, h⟩
        omega
      · exact ih j (by omega) hnj
theorem ch_le {R : List Mix} {i : Nat} {left : Int} {q : Nat → Int} (hn : ∀ j, 0 ≤ nOf R j i ∧ nOf R j i ≤ 6) (hl : ∀ j, j < R.length → 1 ≤ lOf R j ∧ lOf R j ≤ 1048576) (h0 : left ≤ 1000) (h1 : 0 < left) (hq : ∀ j, j < R.length → 0 ≤ q j)
    (hf : left ≤ sumN (fun j => q j * nOf R j i) R.length) : chN R i left R.length ≤ sumN (fun j => q j * lOf R j) R.length := by
  rcases Int.lt_or_le (sumN (fun j => q j * lOf R j) R.length) (chN R i left R.length) with hlt | hge
  · exfalso
    have hmin := ch_min hn hl h0 h1 R.length (Nat.le_refl _)
    have hX0 : 0 ≤ sumN (fun j => q j * lOf R j) R.length := by
      have := sumN_le (f := fun _ => 0) (g := fun j => q j * lOf R j) (n := R.length) fun j hj => Int.mul_nonneg (hq j hj) (by have := hl j hj; omega)
      rwa [sumN_zero fun _ _ => rfl] at this
    generalize hv : chN R i left R.length = v at hlt hmin
    have key : ∀ t, t ≤ R.length → (v - 1) * sumN (fun j => q j * nOf R j i) t + sumN (fun j => if 0 < nOf R j i then q j else 0) t ≤ left * sumN (fun j => q j * lOf R j) t ∧ sumN (fun j => q j * nOf R j i) t ≤ 6 * sumN (fun j => if 0 < nOf R j i then q j else 0) t := by
      intro t ht
      induction t with
      | zero => simp [sumN]
      | succ t ih =>
        obtain ⟨a1, a2⟩ := ih (by omega)
        simp only [sumN]
        have hqt := hq t (by omega)
        have hnt := hn t
        have hlt' := hl t (by omega)
        rw [Int.mul_add, Int.mul_add, Int.mul_add]
        by_cases hc : 0 < nOf R t i
        · rw [if_pos hc]
          have h2 := (hmin t (by omega) hc).2
          unfold priceN at h2
          have h3 : v * nOf R t i ≤ left * lOf R t + nOf R t i - 1 := (Int.le_ediv_iff_mul_le hc).1 h2
          have h4 : (v - 1) * nOf R t i + 1 ≤ left * lOf R t := by rw [Int.sub_mul]; omega
          have h5 := Int.mul_le_mul_of_nonneg_left h4 hqt
          rw [Int.mul_add, Int.mul_one] at h5
          have e1 : q t * ((v - 1) * nOf R t i) = (v - 1) * (q t * nOf R t i) := by rw [← Int.mul_assoc, Int.mul_comm (q t), Int.mul_assoc]
          have e2 : q t * (left * lOf R t) = left * (q t * lOf R t) := by rw [← Int.mul_assoc, Int.mul_comm (q t), Int.mul_assoc]
          rw [e1, e2] at h5
          have h6 := Int.mul_le_mul_of_nonneg_left hnt.2 hqt
          constructor <;> omega
        · rw [if_neg hc]
          have : nOf R t i = 0 := by omega
          rw [this]
          have h5 := Int.mul_nonneg (show 0 ≤ left by omega) (Int.mul_nonneg hqt (show 0 ≤ lOf R t by omega))
          constructor <;> simp <;> omega
    obtain ⟨a1, a2⟩ := key R.length (Nat.le_refl _)
    have h2 := Int.mul_le_mul_of_nonneg_left hf (show 0 ≤ v - 1 by omega)
    have h3 := Int.mul_le_mul_of_nonneg_left (show sumN (fun j => q j * lOf R j) R.length ≤ v - 1 by omega) (show 0 ≤ left by omega)
    rw [Int.mul_comm left (v - 1)] at h3
    omega
  · exact hge
end
end Go.Sim
