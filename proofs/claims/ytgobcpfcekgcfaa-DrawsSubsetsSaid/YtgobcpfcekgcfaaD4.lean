/- A part of the proof: the walks of this law's functions. -/
import Derived.Test.YtgobcpfcekgcfaaD3
namespace Go.Sim
open Go Go.Proofs
set_option maxRecDepth 4000
set_option autoImplicit false
set_option linter.unusedSimpArgs false
/-! ### what Skip comes to: Next, over and over -/
def aff (b p x : Int) : Int := (x * b + p) % 18446744073709551616
def rep (f : Int → Int) : Nat → Int → Int
  | 0, x => x
  | n + 1, x => rep f n (f x)

theorem rep_add (f : Int → Int) : ∀ (m n : Nat) (x : Int), rep f (m + n) x = rep f n (rep f m x)
  | 0, n, x => by simp [rep]
  | m + 1, n, x => by
    rw [Nat.add_right_comm]
    simp only [rep]
    exact rep_add f m n (f x)
theorem rep_two (f : Int → Int) : ∀ (n : Nat) (x : Int), rep (fun y => f (f y)) n x = rep f (2 * n) x
  | 0, x => rfl
  | n + 1, x => by
    show rep (fun y => f (f y)) n (f (f x)) = rep f (2 * n + 2) x
    rw [rep_two f n]
    rfl
theorem rep_congr {f g : Int → Int} (h : ∀ x, f x = g x) : ∀ (n : Nat) (x : Int), rep f n x = rep g n x
  | 0, x => rfl
  | n + 1, x => by
    simp only [rep, h]
    exact rep_congr h n _

theorem mod_of_add (a b M : Int) : (a % M + b) % M = (a + b) % M := by rw [Int.emod_add_emod]
theorem aff_step (b p x : Int) : a64 (m64 x b) p = aff b p x := by
  unfold a64 m64 aff
  rw [IntKind.wrap_u64, IntKind.wrap_u64, mod_of_add]
theorem aff_two (b p x : Int) : aff (m64 b b) (a64 (m64 p b) p) x = aff b p (aff b p x) := by
  unfold a64 m64 aff
  simp only [IntKind.wrap_u64]
  have e0 : (x * (b * b % 18446744073709551616)) % 18446744073709551616 = (x * (b * b)) % 18446744073709551616 := by
    rw [Int.mul_emod, Int.emod_emod, ← Int.mul_emod]
  have e1 : (x * (b * b % 18446744073709551616) + (p * b % 18446744073709551616 + p) % 18446744073709551616) % 18446744073709551616 = (x * (b * b) + (p * b + p)) % 18446744073709551616 := by
    generalize x * (b * b % 18446744073709551616) = y at *
    generalize x * (b * b) = z at *
    generalize p * b = v
    omega
  have e2 : ((x * b + p) % 18446744073709551616 * b + p) % 18446744073709551616 = ((x * b + p) * b + p) % 18446744073709551616 := by
    rw [Int.add_emod, Int.mul_emod, Int.emod_emod, ← Int.mul_emod, ← Int.add_emod]
  rw [e1, e2, Int.add_mul, Int.mul_assoc]
  congr 1
  generalize x * (b * b) = u
  generalize p * b = v
  omega

theorem skipF_rep : ∀ (f : Nat) (d k b p : Int), k.toNat < f → skipF f d k b p = rep (aff b p) k.toNat d
  | 0, d, k, b, p, h => by omega
  | f + 1, d, k, b, p, h => by
    simp only [skipF]
    split
    · rename_i hk
      rw [skipF_rep f _ _ _ _ (by omega), rep_congr (aff_two b p), rep_two, aff_step]
      split
      · have e : k.toNat = 1 + 2 * (k / 2).toNat := by omega
        rw [e, rep_add]
        rfl
      · have e : k.toNat = 2 * (k / 2).toNat := by omega
        rw [e]
    · have e : k.toNat = 0 := by omega
      rw [e]
      rfl

/-- The state after k calls of Next. -/
def sk (d k : Int) : Int := rep nx k.toNat d
theorem skip_sk (d k : Int) (h : k < 2 ^ 63) : CCall Try.prog 22 [.c (.int .u64 d), .c (.int .i64 k)] (.c (.int .u64 (sk d k))) := by
  have := skip_ok d k h
  rw [skipF_rep _ _ _ _ _ (by omega)] at this
  exact this
theorem sk_neg (d k : Int) (h : k ≤ 0) : sk d k = d := by
  have e : k.toNat = 0 := by omega
  rw [sk, e]
  rfl
theorem sk_add (d a b : Int) (ha : 0 ≤ a) (hb : 0 ≤ b) : sk (sk d a) b = sk d (a + b) := by
  have e : (a + b).toNat = a.toNat + b.toNat := by omega
  simp only [sk, e, rep_add]
theorem sk_one (d : Int) : sk d 1 = nx d := rfl
end Go.Sim
