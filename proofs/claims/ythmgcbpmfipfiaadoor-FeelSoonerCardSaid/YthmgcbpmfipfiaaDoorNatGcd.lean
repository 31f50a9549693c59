/- The greatest common divisor by halves and differences: plain. Conditions: those typed. -/
import Derived.Test.YthmgcbpmfipfiaaDoorNatLong
namespace Go.Proofs.YthmgcbpmfipfiaaDoor
set_option linter.unusedVariables false
theorem odd_coprime {y k : Nat} (hy : y % 2 = 1) : Nat.Coprime (2 ^ k) y := by
  refine Nat.Coprime.pow_left k ?_
  show Nat.gcd 2 y = 1
  rw [Nat.gcd_rec, hy]
  rfl
theorem gcd_half {x y k : Nat} (hy : y % 2 = 1) : Nat.gcd (2 ^ k * x) y = Nat.gcd x y := (odd_coprime hy).gcd_mul_left_cancel x
theorem gcd_less {x y : Nat} (h : y ≤ x) : Nat.gcd (x - y) y = Nat.gcd x y := by
  have e : x = (x - y) + y := by omega
  conv => rhs; rw [e]
  simp
theorem odd_of {x k z : Nat} (h : x = 2 ^ k * z) (hz : z % 2 = 1) (hk : 0 < k) : x % 2 = 0 := by
  obtain ⟨j, rfl⟩ : ∃ j, k = j + 1 := ⟨k - 1, by omega⟩
  rw [h, Nat.pow_succ, Nat.mul_assoc, Nat.mul_comm, Nat.mul_assoc]
  simp
theorem gcd_powers {x y n m : Nat} (hx : x % 2 = 1) (hy : y % 2 = 1) : Nat.gcd (2 ^ n * x) (2 ^ m * y) = 2 ^ min n m * Nat.gcd x y := by
  rcases Nat.le_total n m with h | h
  · rw [Nat.min_eq_left h]
    obtain ⟨d, rfl⟩ : ∃ d, m = n + d := ⟨m - n, by omega⟩
    rw [Nat.pow_add, Nat.mul_assoc, Nat.gcd_mul_left, Nat.gcd_comm, gcd_half hx, Nat.gcd_comm]
  · rw [Nat.min_eq_right h]
    obtain ⟨d, rfl⟩ : ∃ d, n = m + d := ⟨n - m, by omega⟩
    rw [Nat.pow_add, Nat.mul_assoc, Nat.gcd_mul_left, gcd_half hy]
theorem gcd_step {x y : Nat} (hy : 0 < y) : Nat.gcd y (x % y) = Nat.gcd x y := by
  rw [Nat.gcd_comm x y, Nat.gcd_rec y x, Nat.gcd_comm]
/-- the bytes of a power of two -/
theorem power_val (n k : Nat) (c : UInt8) (hc : c.toNat = 2 ^ (n % 8)) (hk : k = n / 8) : bval (c :: List.replicate k 0) = 2 ^ n := by
  have e0 : ∀ k, bval (List.replicate k 0) = 0 := by
    intro k
    induction k with
    | zero => rfl
    | succ k ih => rw [List.replicate_succ, bval_cons, ih]; simp
  rw [bval_cons, e0, hc, List.length_replicate, hk]
  have : (256 : Nat) ^ (n / 8) = 2 ^ (8 * (n / 8)) := by rw [Nat.pow_mul]
  rw [this, Nat.add_zero, ← Nat.pow_add, Nat.mod_add_div]
end Go.Proofs.YthmgcbpmfipfiaaDoor
