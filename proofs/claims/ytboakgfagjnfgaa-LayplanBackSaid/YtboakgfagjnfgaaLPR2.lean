/- A part of the proof: the walks of this law's functions. -/
import Derived.Test.YtboakgfagjnfgaaLPR
set_option autoImplicit false
set_option linter.unusedSimpArgs false
set_option linter.unusedVariables false
namespace Go.Sim
open Go

section
variable {m : List Mix} {o : List Int} {ov mo : Int}
/-- A plan that goes on as the present plies: what it makes and takes. -/
theorem more_made {p q : Nat → Int} {k : Nat} (hk : k < m.length) (hz : ∀ j, k < j → p j = 0) (he : ∀ j, j < k + 1 → q j = p j) (f : Nat → Int) :
    sumN (fun j => q j * f j) m.length = sumN (fun j => p j * f j) m.length + sumN (fun j => q (k + 1 + j) * f (k + 1 + j)) (m.drop (k + 1)).length := by
  have hlen : m.length = (k + 1) + (m.drop (k + 1)).length := by rw [List.length_drop]; omega
  have q1 := sumN_add (fun j => q j * f j) (k + 1) (m.drop (k + 1)).length
  have q2 := sumN_add (fun j => p j * f j) (k + 1) (m.drop (k + 1)).length
  rw [← hlen] at q1 q2
  have e1 : sumN (fun j => q j * f j) (k + 1) = sumN (fun j => p j * f j) (k + 1) := sumN_congr fun j hj => by rw [he j hj]
  have e2 : sumN (fun j => p (k + 1 + j) * f (k + 1 + j)) (m.drop (k + 1)).length = 0 := sumN_zero fun j hj => by rw [hz _ (by omega)]; simp
  rw [q1, q2, e1]
  omega

theorem hop_no (h : Tsk m o ov mo) {p q : Nat → Int} {k : Nat} {nb : Bool} {le : Int} (hk : k < m.length) (hz : ∀ j, k < j → p j = 0) (hq : Pl m mo q) (hf : Fe m o ov q) (he : ∀ j, j < k + 1 → q j = p j)
    (hh : hopB (m.drop (k + 1)) o mo (madeF m p) (costF m p) nb le = true) : nb = false ∧ le ≤ costF m q := by
  obtain ⟨r1, r2, r3, r4⟩ := rest_ok h k
  have hlen : m.length = (k + 1) + (m.drop (k + 1)).length := by rw [List.length_drop]; omega
  have hqr : ∀ j, j < (m.drop (k + 1)).length → 0 ≤ q (k + 1 + j) ∧ q (k + 1 + j) ≤ mo := fun j hj => hq _ (by omega)
  have hmade : ∀ i, madeF m q i = madeF m p i + sumN (fun j => q (k + 1 + j) * nOf (m.drop (k + 1)) j i) (m.drop (k + 1)).length := fun i => by
    unfold madeF
    rw [more_made hk hz he fun j => nOf m j i]
    congr 1
    exact sumN_congr fun j hj => by rw [nOf_drop]
  have hcost : costF m q = costF m p + sumN (fun j => q (k + 1 + j) * lOf (m.drop (k + 1)) j) (m.drop (k + 1)).length := by
    unfold costF
    rw [more_made hk hz he (lOf m)]
    congr 1
    exact sumN_congr fun j hj => by rw [lOf_drop]
  have hable : ableB (m.drop (k + 1)) o mo (madeF m p) = true := ableB_iff.2 fun i hi hl => by
    have h1 := cap_ge (mo := mo) (q := fun j => q (k + 1 + j)) (i := i) (R := m.drop (k + 1)) (fun j => (r3 i j).1) hqr _ (Nat.le_refl _)
    have h2 := hf i hi
    have h3 := hmade i
    omega
  unfold hopB at hh
  rw [hable] at hh
  simp only [Bool.not_true, Bool.false_or, Bool.and_eq_true, Bool.not_eq_true', decide_eq_true_eq] at hh
  refine ⟨hh.1, ?_⟩
  have key : ∀ t, t ≤ o.length → outN (m.drop (k + 1)) o (madeF m p) t ≤ sumN (fun j => q (k + 1 + j) * lOf (m.drop (k + 1)) j) (m.drop (k + 1)).length := by
    intro t ht
    induction t with
    | zero =>
      have := sumN_le (f := fun _ => 0) (g := fun j => q (k + 1 + j) * lOf (m.drop (k + 1)) j) (n := (m.drop (k + 1)).length) fun j hj => Int.mul_nonneg (hqr j hj).1 (by have := r4 j hj; omega)
      rwa [sumN_zero fun _ _ => rfl] at this
    | succ t ih =>
      have ih := ih (by omega)
      rw [outN_s]
      split
      · exact ih
      · rename_i hc
        have h1 := h.hob t
        have h2 := hf t (by omega)
        have h3 := hmade t
        have hp0 : 0 ≤ madeF m p t := by
          have := sumN_le (f := fun _ => 0) (g := fun j => p j * nOf m j t) (n := m.length) fun j hj => Int.mul_nonneg (by
            by_cases hj2 : j < k + 1
            · rw [← he j hj2]; exact (hq j hj).1
            · rw [hz j (by omega)]; exact Int.le_refl _) (h.hn j t).1
          rwa [sumN_zero fun _ _ => rfl] at this
        have := ch_le (R := m.drop (k + 1)) (i := t) (left := o.getD t 0 - madeF m p t) (q := fun j => q (k + 1 + j)) (r3 t) r4 (by omega) (by omega) (fun j hj => (hqr j hj).1) (by omega)
        omega
  have := key o.length (Nat.le_refl _)
  omega

/-- At the label: the plies of the mixes up to the present one are given, all plans before are done. -/
structure Ag (m : List Mix) (o : List Int) (ov mo : Int) (k : Nat) (p : Nat → Int) (nb : Bool) (b : List Int) (le : Int) : Prop where
  hk : k < m.length
  hp : Pl m mo p
  hz : ∀ j, k < j → p j = 0
  opt : Opt m o ov mo (rk (mo.toNat + 1) p (k + 1) * (mo.toNat + 1) ^ (m.length - (k + 1))) nb b le
/-- Behind: all plans that go on as the present plies are done, too. -/
structure Bk (m : List Mix) (o : List Int) (ov mo : Int) (r0 k : Nat) (p : Nat → Int) (nb : Bool) (b : List Int) (le : Int) : Prop where
  hk : k < m.length
  hp : Pl m mo p
  hz : ∀ j, k < j → p j = 0
  opt : Opt m o ov mo ((rk (mo.toNat + 1) p (k + 1) + 1) * (mo.toNat + 1) ^ (m.length - (k + 1))) nb b le
  hr : r0 < (rk (mo.toNat + 1) p (k + 1) + 1) * (mo.toNat + 1) ^ (m.length - (k + 1))
def rank (m : List Mix) (mo : Int) (k : Nat) (p : Nat → Int) : Nat := rk (mo.toNat + 1) p (k + 1) * (mo.toNat + 1) ^ (m.length - (k + 1))
def msA (m : List Mix) (mo : Int) (k : Nat) (p : Nat → Int) : Nat := ((mo.toNat + 1) ^ m.length - rank m mo k p) * (m.length + 1) + (m.length - k)

theorem pow_pos' (B n : Nat) : 0 < (B + 1) ^ n := Nat.pow_pos (by omega)
theorem rank_bk {k : Nat} {p : Nat → Int} : rank m mo k p < (rk (mo.toNat + 1) p (k + 1) + 1) * (mo.toNat + 1) ^ (m.length - (k + 1)) := by
  have := pow_pos' mo.toNat (m.length - (k + 1))
  unfold rank
  rw [Nat.add_mul]
  omega
theorem plan_eq {p q : Nat → Int} {n : Nat} (hn : n ≤ m.length) (hp : Pl m mo p) (hq : Pl m mo q) (h : rk (mo.toNat + 1) q n = rk (mo.toNat + 1) p n) : ∀ j, j < n → q j = p j := fun j hj => by
  have := rk_inj (fun j hj => pl_dig hq j (by omega)) (fun j hj => pl_dig hp j (by omega)) h j hj
  have := hp j (by omega)
  have := hq j (by omega)
  omega
theorem ag_skip {k : Nat} {p : Nat → Int} {nb : Bool} {b : List Int} {le : Int} (h : Ag m o ov mo k p nb b le) (hq : ∀ q, Pl m mo q → Fe m o ov q → (∀ j, j < k + 1 → q j = p j) → nb = false ∧ le ≤ costF m q) : Bk m o ov mo (rank m mo k p) k p nb b le := by
  refine ⟨h.hk, h.hp, h.hz, opt_skip (Nat.le_of_lt rank_bk) h.opt fun q h1 h2 h3 h4 => ?_, rank_bk⟩
  have hk := h.hk
  exact hq q h1 h2 (plan_eq (by omega) h.hp h1 (rk_pre (by omega) (pl_dig h1) h3 h4))
theorem ag_exc (ht : Tsk m o ov mo) {k : Nat} {p : Nat → Int} {nb : Bool} {b : List Int} {le : Int} (h : Ag m o ov mo k p nb b le) (he : exc o ov (madeF m p) = true) : Bk m o ov mo (rank m mo k p) k p nb b le :=
  ag_skip h fun q h1 h2 h3 => (exc_no ht (fun j hj => by
    by_cases hj2 : j < k + 1
    · rw [h3 j hj2]; exact Int.le_refl _
    · rw [h.hz j (by omega)]; exact (h1 j hj).1) he h2).elim
theorem ag_hop (ht : Tsk m o ov mo) {k : Nat} {p : Nat → Int} {nb : Bool} {b : List Int} {le : Int} (h : Ag m o ov mo k p nb b le) (he : hopB (m.drop (k + 1)) o mo (madeF m p) (costF m p) nb le = true) : Bk m o ov mo (rank m mo k p) k p nb b le :=
  ag_skip h fun q h1 h2 h3 => hop_no ht h.hk h.hz h1 h2 h3 he
theorem ag_keep (ht : Tsk m o ov mo) {k : Nat} {p : Nat → Int} {nb : Bool} {b : List Int} {le : Int} (h : Ag m o ov mo k p nb b le) (hl : m.length ≤ k + 1) (he : exc o ov (madeF m p) = false) (hh : hopB (m.drop (k + 1)) o mo (madeF m p) (costF m p) nb le = false) :
    Bk m o ov mo (rank m mo k p) k p false ((List.range m.length).map p) (costF m p) := by
  have hk := h.hk
  have e : m.length = k + 1 := by omega
  have hdrop : m.drop (k + 1) = [] := List.drop_eq_nil_of_le hl
  rw [hdrop] at hh
  have e0 : (mo.toNat + 1) ^ (m.length - (k + 1)) = 1 := by rw [show m.length - (k + 1) = 0 by omega, Nat.pow_zero]
  have ho := h.opt
  rw [e0, Nat.mul_one, ← e] at ho
  unfold hopB at hh
  simp only [Bool.or_eq_false_iff, Bool.not_eq_false', Bool.and_eq_false_imp, Bool.not_eq_true', decide_eq_false_iff_not] at hh
  have hab := ableB_iff.1 hh.1
  have hleft : ∀ i, i < o.length → o.getD i 0 - madeF m p i ≤ 0 := fun i hi => by
    rcases Int.lt_or_le 0 (o.getD i 0 - madeF m p i) with h1 | h1
    · have := hab i hi h1
      simp only [List.length_nil, capN] at this
      exact this
    · exact h1
  have hout : ∀ t, t ≤ o.length → outN [] o (madeF m p) t = 0 := by
    intro t ht
    induction t with
    | zero => rfl
    | succ t ih => rw [outN_s, if_pos (hleft t (by omega)), ih (by omega)]
  have hf : Fe m o ov p := fun i hi => by
    have h1 := hleft i hi
    have h2 := exc_not.1 he i hi
    omega
  have := opt_keep ho h.hp hf (by
    cases nb with
    | true => exact .inl rfl
    | false =>
      have h3 := hh.2 rfl
      rw [hout o.length (Nat.le_refl _)] at h3
      exact .inr (by omega))
  refine ⟨h.hk, h.hp, h.hz, ?_, rank_bk⟩
  rw [e0, Nat.mul_one, ← e]
  exact this
theorem rk_zero {k : Nat} {p : Nat → Int} (h : p k = 0) (B : Nat) : rk B p (k + 1) = rk B p k * B := by simp [rk, h]
theorem ag_next {k : Nat} {p : Nat → Int} {nb : Bool} {b : List Int} {le : Int} (h : Ag m o ov mo k p nb b le) (hl : k + 1 < m.length) : Ag m o ov mo (k + 1) p nb b le ∧ rank m mo (k + 1) p = rank m mo k p := by
  have e : rk (mo.toNat + 1) p (k + 1 + 1) * (mo.toNat + 1) ^ (m.length - (k + 1 + 1)) = rk (mo.toNat + 1) p (k + 1) * (mo.toNat + 1) ^ (m.length - (k + 1)) := by
    rw [rk_zero (h.hz (k + 1) (by omega)), Nat.mul_assoc, Nat.mul_comm (mo.toNat + 1), ← Nat.pow_succ, show Nat.succ (m.length - (k + 1 + 1)) = m.length - (k + 1) by omega]
  exact ⟨⟨hl, h.hp, fun j hj => h.hz j (by omega), by rw [e]; exact h.opt⟩, e⟩
theorem rk_up {k : Nat} {p p' : Nat → Int} {B : Nat} (h1 : ∀ j, j < k → p' j = p j) (h2 : p' k = p k + 1) (h3 : 0 ≤ p k) : rk B p' (k + 1) = rk B p (k + 1) + 1 := by
  simp only [rk]
  rw [rk_congr h1, h2]
  omega
theorem bk_up {r0 k : Nat} {p : Nat → Int} {nb : Bool} {b : List Int} {le : Int} (h : Bk m o ov mo r0 k p nb b le) (hl : p k < mo) : Ag m o ov mo k (fun j => if j = k then p k + 1 else p j) nb b le ∧ r0 < rank m mo k (fun j => if j = k then p k + 1 else p j) := by
  have h0 := (h.hp k h.hk).1
  have e : rk (mo.toNat + 1) (fun j => if j = k then p k + 1 else p j) (k + 1) = rk (mo.toNat + 1) p (k + 1) + 1 := rk_up (fun j hj => by rw [if_neg (by omega)]) (by rw [if_pos rfl]) h0
  refine ⟨⟨h.hk, fun j hj => ?_, fun j hj => by rw [if_neg (by omega)]; exact h.hz j hj, by rw [e]; exact h.opt⟩, by unfold rank; rw [e]; exact h.hr⟩
  try dsimp only
  split
  · rename_i ej; subst ej; omega
  · exact h.hp j hj
/-- What a step back says. -/
theorem bk_pop (ht : Tsk m o ov mo) {r0 k : Nat} {p : Nat → Int} {nb : Bool} {b : List Int} {le : Int} (h : Bk m o ov mo r0 k p nb b le) (hc : mo ≤ p k ∨ exc o ov (madeF m p) = true) :
    Opt m o ov mo ((rk (mo.toNat + 1) p k + 1) * (mo.toNat + 1) ^ (m.length - k)) nb b le ∧ r0 < (rk (mo.toNat + 1) p k + 1) * (mo.toNat + 1) ^ (m.length - k) := by
  have hk := h.hk
  have hd := pl_dig h.hp k hk
  have e : (rk (mo.toNat + 1) p k + 1) * (mo.toNat + 1) ^ (m.length - k) = ((rk (mo.toNat + 1) p k + 1) * (mo.toNat + 1)) * (mo.toNat + 1) ^ (m.length - (k + 1)) := by
    rw [Nat.mul_assoc, Nat.mul_comm (mo.toNat + 1) (_ ^ _), ← Nat.pow_succ, show Nat.succ (m.length - (k + 1)) = m.length - k by omega]
  have hle : (rk (mo.toNat + 1) p (k + 1) + 1) * (mo.toNat + 1) ^ (m.length - (k + 1)) ≤ (rk (mo.toNat + 1) p k + 1) * (mo.toNat + 1) ^ (m.length - k) := by
    rw [e]
    refine Nat.mul_le_mul_right _ ?_
    simp only [rk]
    rw [Nat.add_mul]
    omega
  refine ⟨opt_skip hle h.opt fun q h1 h2 h3 h4 => ?_, Nat.lt_of_lt_of_le h.hr hle⟩
  exfalso
  have hlow : rk (mo.toNat + 1) p k * (mo.toNat + 1) ^ (m.length - k) ≤ rk (mo.toNat + 1) q m.length := by
    refine Nat.le_trans ?_ h3
    rw [show m.length - k = m.length - (k + 1) + 1 by omega, Nat.pow_succ, Nat.mul_comm (_ ^ _), ← Nat.mul_assoc]
    refine Nat.mul_le_mul_right _ ?_
    simp only [rk]
    omega
  have e1 : rk (mo.toNat + 1) q k = rk (mo.toNat + 1) p k := rk_pre (by omega) (pl_dig h1) hlow h4
  have heq := plan_eq (by omega) h.hp h1 e1
  have h5 := (rk_mid (a := 0) (n := k + 1) (by omega) (pl_dig h1)).1
  have h6 : rk (mo.toNat + 1) p (k + 1) + 1 ≤ rk (mo.toNat + 1) q (k + 1) := by
    rcases Nat.lt_or_ge (rk (mo.toNat + 1) q (k + 1)) (rk (mo.toNat + 1) p (k + 1) + 1) with h7 | h7
    · have := Nat.mul_le_mul_right ((mo.toNat + 1) ^ (m.length - (k + 1))) (show rk (mo.toNat + 1) q (k + 1) + 1 ≤ rk (mo.toNat + 1) p (k + 1) + 1 by omega)
      omega
    · exact h7
  have h8 : p k < q k := by
    simp only [rk, e1] at h6
    have := h.hp k hk
    have := h1 k hk
    omega
  rcases hc with hc | hc
  · have := h1 k hk
    omega
  · refine exc_no ht (fun j hj => ?_) hc h2
    rcases Nat.lt_trichotomy j k with hj2 | hj2 | hj2
    · rw [heq j hj2]; exact Int.le_refl _
    · subst hj2; omega
    · rw [h.hz j hj2]; exact (h1 j hj).1
theorem bk_down (ht : Tsk m o ov mo) {r0 k : Nat} {p : Nat → Int} {nb : Bool} {b : List Int} {le : Int} (h : Bk m o ov mo r0 (k + 1) p nb b le) (hc : mo ≤ p (k + 1) ∨ exc o ov (madeF m p) = true) :
    Bk m o ov mo r0 k (fun j => if j = k + 1 then p (k + 1) + (0 - p (k + 1)) else p j) nb b le := by
  obtain ⟨h1, h2⟩ := bk_pop ht h hc
  have hk := h.hk
  have e : rk (mo.toNat + 1) (fun j => if j = k + 1 then p (k + 1) + (0 - p (k + 1)) else p j) (k + 1) = rk (mo.toNat + 1) p (k + 1) := rk_congr fun j hj => by rw [if_neg (by omega)]
  refine ⟨by omega, fun j hj => ?_, fun j hj => ?_, by rw [e]; exact h1, by rw [e]; exact h2⟩
  · try dsimp only
    split
    · have := ht.hmo; omega
    · exact h.hp j hj
  · try dsimp only
    split
    · omega
    · exact h.hz j (by omega)
theorem bk_end (ht : Tsk m o ov mo) {r0 : Nat} {p : Nat → Int} {nb : Bool} {b : List Int} {le : Int} (h : Bk m o ov mo r0 0 p nb b le) (hc : mo ≤ p 0 ∨ exc o ov (madeF m p) = true) :
    Opt m o ov mo ((mo.toNat + 1) ^ m.length) nb b le ∧ (fun j => if j = 0 then p 0 + (0 - p 0) else p j) = fun _ => 0 := by
  obtain ⟨h1, h2⟩ := bk_pop ht h hc
  simp only [rk, Nat.zero_add, Nat.one_mul, Nat.sub_zero] at h1
  refine ⟨h1, funext fun j => ?_⟩
  split
  · omega
  · exact h.hz j (by omega)
theorem ms_lt {k k' : Nat} {p p' : Nat → Int} (hk : k < m.length) (hp : Pl m mo p) (h : rank m mo k p < rank m mo k' p') : msA m mo k' p' < msA m mo k p := by
  have h1 := rk_lt (B := mo.toNat + 1) (n := k + 1) (p := p) fun j hj => pl_dig hp j (by omega)
  have h2 : rank m mo k p < (mo.toNat + 1) ^ m.length := by
    unfold rank
    have h3 := Nat.mul_lt_mul_of_pos_right h1 (pow_pos' mo.toNat (m.length - (k + 1)))
    rw [← Nat.pow_add, show k + 1 + (m.length - (k + 1)) = m.length by omega] at h3
    exact h3
  unfold msA
  have h4 := Nat.mul_le_mul_right (m.length + 1) (show (mo.toNat + 1) ^ m.length - rank m mo k' p' + 1 ≤ (mo.toNat + 1) ^ m.length - rank m mo k p by omega)
  rw [Nat.add_mul] at h4
  omega
theorem ms_next {k : Nat} {p : Nat → Int} (hl : k + 1 < m.length) (h : rank m mo (k + 1) p = rank m mo k p) : msA m mo (k + 1) p < msA m mo k p := by
  unfold msA
  rw [h]
  omega
theorem ag_init (ht : Tsk m o ov mo) : Ag m o ov mo 0 (fun _ => 0) true [] 0 := by
  refine ⟨ht.hm1, fun j hj => ⟨Int.le_refl _, ht.hmo.1⟩, fun _ _ => rfl, ⟨fun q h1 h2 h3 => ?_, (fun h => by cases h), fun _ => ⟨rfl, rfl⟩⟩⟩
  simp [rk] at h3
/-! the numbers of a state -/
theorem madeF_rng (ht : Tsk m o ov mo) {p : Nat → Int} (hp : Pl m mo p) (i : Nat) : 0 ≤ madeF m p i ∧ madeF m p i ≤ 1440 := by
  have h1 : 0 ≤ madeF m p i := by
    have := sumN_le (f := fun _ => 0) (g := fun j => p j * nOf m j i) (n := m.length) fun j hj => Int.mul_nonneg (hp j hj).1 (ht.hn j i).1
    rwa [sumN_zero fun _ _ => rfl] at this
  have key : ∀ n, n ≤ m.length → sumN (fun j => p j * nOf m j i) n ≤ 240 * (n : Nat) := by
    intro n hn
    induction n with
    | zero => simp [sumN]
    | succ n ih =>
      have := ih (by omega)
      have := mul_rng (B := 6) (hp n (by omega)).1 (Int.le_trans (hp n (by omega)).2 ht.hmo.2) (ht.hn n i).1 (ht.hn n i).2
      simp only [sumN]
      omega
  have h2 := key m.length (Nat.le_refl _)
  have := ht.hm
  unfold madeF at *
  omega
theorem costF_rng (ht : Tsk m o ov mo) {p : Nat → Int} (hp : Pl m mo p) : 0 ≤ costF m p ∧ costF m p ≤ 251658240 := by
  have h1 : 0 ≤ costF m p := by
    have := sumN_le (f := fun _ => 0) (g := fun j => p j * lOf m j) (n := m.length) fun j hj => Int.mul_nonneg (hp j hj).1 (by have := ht.hl j hj; omega)
    rwa [sumN_zero fun _ _ => rfl] at this
  have key : ∀ n, n ≤ m.length → sumN (fun j => p j * lOf m j) n ≤ 41943040 * (n : Nat) := by
    intro n hn
    induction n with
    | zero => simp [sumN]
    | succ n ih =>
      have := ih (by omega)
      have h3 := ht.hl n (by omega)
      have := mul_rng (B := 1048576) (hp n (by omega)).1 (Int.le_trans (hp n (by omega)).2 ht.hmo.2) (by omega) h3.2
      simp only [sumN]
      omega
  have h2 := key m.length (Nat.le_refl _)
  have := ht.hm
  unfold costF at *
  omega
theorem sum_lay {p : Nat → Int} {k : Nat} (hk : k < m.length) (n : Int) (f : Nat → Int) : sumN (fun j => (if j = k then p k + n else p j) * f j) m.length = sumN (fun j => p j * f j) m.length + n * f k := by
  have := sumN_upd (fun j => p j * f j) k (n * f k) m.length
  rw [if_pos hk] at this
  rw [← this]
  refine sumN_congr fun j hj => ?_
  split
  · rename_i e; subst e; rw [Int.add_mul]
  · rfl
theorem lay_cost {p : Nat → Int} {k : Nat} (hk : k < m.length) (n : Int) : costF m (fun j => if j = k then p k + n else p j) = costF m p + n * lOf m k := sum_lay hk n (lOf m)
theorem lay_made (ht : Tsk m o ov mo) {p : Nat → Int} {k : Nat} (hk : k < m.length) (n : Int) : made1 m o k n (madeF m p) o.length = madeF m (fun j => if j = k then p k + n else p j) := by
  funext i
  unfold made1
  have h := sum_lay (p := p) hk n fun j => nOf m j i
  unfold madeF
  rw [h]
  split
  · rfl
  · rename_i hi
    have : nOf m k i = 0 := by
      unfold nOf
      rw [List.getD_eq_getElem?_getD, List.getElem?_eq_none (by have := ht.hc k hk; omega)]
      rfl
    rw [this]
    simp
end
end Go.Sim
