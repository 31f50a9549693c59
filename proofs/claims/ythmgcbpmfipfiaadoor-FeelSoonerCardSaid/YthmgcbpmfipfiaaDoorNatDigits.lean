/- Digits: sums, differences, products, quotients, digit by digit. Conditions: those typed. -/
import Derived.Test.YthmgcbpmfipfiaaDoorNatPlain
namespace Go.Proofs.YthmgcbpmfipfiaaDoor
set_option linter.unusedVariables false
theorem pow_pos' {B : Nat} (hB : 0 < B) (k : Nat) : 0 < B ^ k := Nat.pow_pos hB
theorem split_at {B : Nat} (hB : 0 < B) (n j : Nat) : n = n % B ^ j + B ^ j * (n / B ^ j % B) + B ^ (j + 1) * (n / B ^ (j + 1)) := by
  have h1 := Nat.mod_add_div n (B ^ j)
  have h2 := Nat.mod_add_div (n / B ^ j) B
  have h3 : n / B ^ (j + 1) = n / B ^ j / B := by rw [Nat.div_div_eq_div_mul, Nat.pow_succ]
  rw [h3, Nat.pow_succ]
  grind
theorem mod_succ (B n k : Nat) : n % B ^ (k + 1) = n % B ^ k + B ^ k * (n / B ^ k % B) := by
  rw [Nat.pow_succ, Nat.mod_mul]
theorem low_mod {B : Nat} {a b k : Nat} (h : a < B ^ k) : (a + B ^ k * b) % B ^ k = a := by
  rw [Nat.add_mul_mod_self_left, Nat.mod_eq_of_lt h]
theorem low_div {B : Nat} {a b k : Nat} (h : a < B ^ k) : (a + B ^ k * b) / B ^ k = b := by
  have : 0 < B ^ k := by omega
  rw [Nat.add_mul_div_left _ _ this, Nat.div_eq_of_lt h, Nat.zero_add]
/-- one digit is set -/
theorem digs_upd {B m N N' j v : Nat} (hB : 0 < B) (hj : j < m) (hv : v < B) (h : N' + B ^ j * (N / B ^ j % B) = N + B ^ j * v) : (digs B m N).set j v = digs B m N' := by
  have h1 := split_at hB N j
  obtain ⟨r, hr⟩ : ∃ r, r = N % B ^ j := ⟨_, rfl⟩
  obtain ⟨d, hd⟩ : ∃ d, d = N / B ^ j % B := ⟨_, rfl⟩
  obtain ⟨q, hq⟩ : ∃ q, q = N / B ^ (j + 1) := ⟨_, rfl⟩
  have hrl : r < B ^ j := by rw [hr]; exact Nat.mod_lt _ (pow_pos' hB j)
  have hN' : N' = r + B ^ j * (v + B * q) := by
    rw [← hr, ← hd, ← hq, Nat.pow_succ] at h1
    rw [← hd] at h
    grind
  refine digs_set B m N N' j v hj ?_ ?_ ?_
  · rw [hN', low_mod hrl, hr]
  · rw [hN', low_div hrl, Nat.add_mul_mod_self_left, Nat.mod_eq_of_lt hv]
  · rw [Nat.pow_succ, ← Nat.div_div_eq_div_mul, hN', low_div hrl, Nat.add_mul_div_left _ _ hB, Nat.div_eq_of_lt hv, Nat.zero_add, hq, Nat.pow_succ]
/-- the next digit is set -/
theorem digs_put {B m N k v : Nat} (hB : 0 < B) (hk : k < m) (hN : N < B ^ k) (hv : v < B) : (digs B m N).set k v = digs B m (N + B ^ k * v) := by
  refine digs_upd hB hk hv ?_
  rw [Nat.div_eq_of_lt hN, Nat.zero_mod]
  rfl
/-- a sum grows by one digit -/
theorem carry_div {B : Nat} (hB : 0 < B) (S k e : Nat) : (S + B ^ k * e) / B ^ (k + 1) = (S / B ^ k + e) / B := by
  rw [Nat.pow_succ, ← Nat.div_div_eq_div_mul, Nat.add_mul_div_left _ _ (pow_pos' hB k)]
theorem carry_mod {B : Nat} (hB : 0 < B) (S k e : Nat) : (S + B ^ k * e) % B ^ (k + 1) = S % B ^ k + B ^ k * ((S / B ^ k + e) % B) := by
  rw [mod_succ, Nat.add_mul_mod_self_left, Nat.add_mul_div_left _ _ (pow_pos' hB k)]
/-- addition: the digits and the carry behind k steps -/
def addS (B X Y k : Nat) : Nat := X % B ^ k + Y % B ^ k
theorem addS_zero (B X Y : Nat) : addS B X Y 0 = 0 := by simp [addS, Nat.mod_one]
theorem addS_succ (B X Y k : Nat) : addS B X Y (k + 1) = addS B X Y k + B ^ k * (X / B ^ k % B + Y / B ^ k % B) := by
  unfold addS; rw [mod_succ, mod_succ]; grind
theorem addS_carry {B : Nat} (hB : 0 < B) (X Y k : Nat) : addS B X Y (k + 1) / B ^ (k + 1) = (addS B X Y k / B ^ k + X / B ^ k % B + Y / B ^ k % B) / B := by
  rw [addS_succ, carry_div hB, Nat.add_assoc]
theorem addS_digs {B : Nat} (hB : 0 < B) (X Y k m : Nat) (hk : k < m) : (digs B m (addS B X Y k % B ^ k)).set k ((addS B X Y k / B ^ k + X / B ^ k % B + Y / B ^ k % B) % B) = digs B m (addS B X Y (k + 1) % B ^ (k + 1)) := by
  rw [digs_put hB hk (Nat.mod_lt _ (pow_pos' hB k)) (Nat.mod_lt _ hB), addS_succ, carry_mod hB, Nat.add_assoc]
theorem addS_carry_le {B : Nat} (hB : 0 < B) (X Y k : Nat) : addS B X Y k / B ^ k ≤ 1 := by
  have h1 := Nat.mod_lt X (pow_pos' hB k)
  have h2 := Nat.mod_lt Y (pow_pos' hB k)
  have : addS B X Y k / B ^ k < 2 := by
    rw [Nat.div_lt_iff_lt_mul (pow_pos' hB k)]
    unfold addS
    omega
  omega
theorem addS_end {B : Nat} (hB : 0 < B) {X Y k : Nat} (hX : X < B ^ k) (hY : Y < B ^ k) : addS B X Y k = X + Y := by
  unfold addS; rw [Nat.mod_eq_of_lt hX, Nat.mod_eq_of_lt hY]
theorem addS_last {B : Nat} (hB : 1 < B) {X Y k : Nat} (hX : X < B ^ k) (hY : Y < B ^ k) : (digs B (k + 1) (addS B X Y k % B ^ k)).set k (addS B X Y k / B ^ k) = digs B (k + 1) (X + Y) := by
  have := addS_carry_le (B := B) (by omega) X Y k
  rw [digs_put (by omega) (by omega) (Nat.mod_lt _ (pow_pos' (by omega) k)) (by omega), Nat.mod_add_div, addS_end (by omega) hX hY]
/-- subtraction: the borrow behind k steps -/
def subB (B X Y k : Nat) : Nat := if X % B ^ k < Y % B ^ k then 1 else 0
theorem subB_le (B X Y k : Nat) : subB B X Y k ≤ 1 := by unfold subB; split <;> omega
theorem subB_zero (B X Y : Nat) : subB B X Y 0 = 0 := by simp [subB, Nat.mod_one]
def subN (B X Y k : Nat) : Nat := X + subB B X Y k * B ^ k - Y % B ^ k
theorem subN_zero (B X Y : Nat) : subN B X Y 0 = X := by simp [subN, subB_zero, Nat.mod_one]
theorem subN_fits {B : Nat} (hB : 0 < B) (X Y k : Nat) : Y % B ^ k ≤ X + subB B X Y k * B ^ k := by
  unfold subB
  have h1 := Nat.mod_lt Y (pow_pos' hB k)
  have h2 := Nat.mod_le X (B ^ k)
  split <;> omega
theorem subB_succ {B : Nat} (hB : 0 < B) (X Y k : Nat) : subB B X Y (k + 1) = if X / B ^ k % B < Y / B ^ k % B + subB B X Y k then 1 else 0 := by
  have hp := pow_pos' hB k
  unfold subB
  rw [mod_succ B X, mod_succ B Y]
  have h1 := Nat.mod_lt X hp
  have h2 := Nat.mod_lt Y hp
  generalize X / B ^ k % B = x at *
  generalize Y / B ^ k % B = y at *
  generalize X % B ^ k = a at *
  generalize Y % B ^ k = b at *
  generalize B ^ k = p at *
  rcases Nat.lt_trichotomy x y with h | h | h
  · have h3 : p * (x + 1) ≤ p * y := Nat.mul_le_mul_left p h
    rw [Nat.mul_add] at h3
    rw [if_pos (by omega), if_pos (by omega)]
  · subst h
    by_cases hab : a < b
    · rw [if_pos (by omega), if_pos hab, if_pos (by omega)]
    · rw [if_neg (by omega), if_neg hab, if_neg (by omega)]
  · have h3 : p * (y + 1) ≤ p * x := Nat.mul_le_mul_left p h
    rw [Nat.mul_add] at h3
    rw [if_neg (by omega)]
    split <;> rw [if_neg (by omega)]
theorem subN_eq {B : Nat} (hB : 0 < B) (X Y k : Nat) : subN B X Y k + Y % B ^ k = X + subB B X Y k * B ^ k := by
  have := subN_fits hB X Y k
  unfold subN
  omega
theorem subB_or (B X Y k : Nat) : (subB B X Y k = 1 ∧ X % B ^ k < Y % B ^ k) ∨ (subB B X Y k = 0 ∧ Y % B ^ k ≤ X % B ^ k) := by
  unfold subB
  by_cases h : X % B ^ k < Y % B ^ k
  · exact .inl ⟨if_pos h, h⟩
  · exact .inr ⟨if_neg h, by omega⟩
theorem subN_dig {B : Nat} (hB : 0 < B) (X Y k : Nat) : subN B X Y k / B ^ k = X / B ^ k := by
  have hp := pow_pos' hB k
  have h1 := subN_eq hB X Y k
  have h2 := Nat.mod_lt Y hp
  have h3 := Nat.mod_add_div X (B ^ k)
  have h4 := Nat.mod_lt X hp
  have h5 := subB_or B X Y k
  generalize subB B X Y k = c at *
  have : subN B X Y k = (X % B ^ k + c * B ^ k - Y % B ^ k) + B ^ k * (X / B ^ k) := by
    rcases h5 with ⟨rfl, h⟩ | ⟨rfl, h⟩ <;> simp only [Nat.zero_mul, Nat.one_mul, Nat.add_zero] at h1 ⊢ <;> generalize B ^ k * (X / B ^ k) = z at * <;> generalize X % B ^ k = a at * <;> generalize Y % B ^ k = b at * <;> generalize B ^ k = p at * <;> omega
  rw [this]
  refine low_div ?_
  rcases h5 with ⟨rfl, h⟩ | ⟨rfl, h⟩ <;> simp only [Nat.zero_mul, Nat.one_mul, Nat.add_zero] <;> generalize X % B ^ k = a at * <;> generalize Y % B ^ k = b at * <;> generalize B ^ k = p at * <;> omega
theorem subN_digs {B : Nat} (hB : 1 < B) (X Y k m : Nat) (hk : k < m) : (digs B m (subN B X Y k)).set k ((X / B ^ k % B + B - Y / B ^ k % B - subB B X Y k) % B) = digs B m (subN B X Y (k + 1)) := by
  have hB0 : 0 < B := by omega
  refine digs_upd hB0 hk (Nat.mod_lt _ hB0) ?_
  rw [subN_dig hB0]
  have h1 := subN_eq hB0 X Y k
  have h2 := subN_eq hB0 X Y (k + 1)
  rw [mod_succ, subB_succ hB0, Nat.pow_succ] at h2
  have h3 := subB_le B X Y k
  have hx := Nat.mod_lt (X / B ^ k) hB0
  have hy := Nat.mod_lt (Y / B ^ k) hB0
  generalize X / B ^ k % B = x at *
  generalize Y / B ^ k % B = y at *
  generalize subB B X Y k = c at *
  generalize B ^ k = p at *
  by_cases h : x < y + c
  · rw [if_pos h] at h2
    rw [Nat.mod_eq_of_lt (by omega)]
    obtain ⟨z, hz⟩ : ∃ z, z = x + B - y - c := ⟨_, rfl⟩
    have e : z + y + c = x + B := by omega
    rw [← hz]
    have e2 : p * z + p * y + p * c = p * x + p * B := by rw [← Nat.mul_add, ← Nat.mul_add, e, Nat.mul_add]
    grind
  · rw [if_neg h] at h2
    have e1 : x + B - y - c = (x - y - c) + B := by omega
    rw [e1, Nat.add_mod_right, Nat.mod_eq_of_lt (by omega)]
    obtain ⟨z, hz⟩ : ∃ z, z = x - y - c := ⟨_, rfl⟩
    have e : z + y + c = x := by omega
    rw [← hz]
    have e2 : p * z + p * y + p * c = p * x := by rw [← Nat.mul_add, ← Nat.mul_add, e]
    grind
theorem subN_end {B : Nat} (hB : 0 < B) {X Y k : Nat} (hX : X < B ^ k) (hY : Y < B ^ k) (h : Y ≤ X) : subN B X Y k = X - Y := by
  unfold subN subB
  rw [Nat.mod_eq_of_lt hX, Nat.mod_eq_of_lt hY, if_neg (by omega)]
  simp
end Go.Proofs.YthmgcbpmfipfiaaDoor
