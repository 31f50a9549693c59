/- The CRC-32, bit by bit and by a table: the plain law. No condition but those typed. -/
import Derived.Test.YtaahpjjffggaiaaWords
namespace Go.Gy

def poly : Nat := 3988292384
/-- one bit -/
def cstep (s : Nat) : Nat := (s / 2) ^^^ (poly * (s % 2))
def csteps : Nat → Nat → Nat
  | 0, s => s
  | k + 1, s => cstep (csteps k s)
/-- bytes, the first one first -/
def cfold (s : Nat) (l : List Nat) : Nat := l.foldl (fun s x => csteps 8 (s ^^^ x)) s
def crc (l : List Nat) : Nat := cfold 4294967295 l ^^^ 4294967295

theorem poly_lt : poly < 2 ^ 32 := by decide
theorem cstep_lt {s : Nat} (h : s < 4294967296) : cstep s < 4294967296 := by
  unfold cstep
  refine Nat.xor_lt_two_pow (n := 32) (by omega) ?_
  have := poly_lt
  rcases Nat.mod_two_eq_zero_or_one s with h | h <;> rw [h] <;> omega
theorem csteps_lt (k : Nat) {s : Nat} (h : s < 4294967296) : csteps k s < 4294967296 := by
  induction k with
  | zero => exact h
  | succ k ih => exact cstep_lt ih
theorem xor_lt {a b : Nat} (ha : a < 4294967296) (hb : b < 4294967296) : a ^^^ b < 4294967296 := Nat.xor_lt_two_pow (n := 32) ha hb
theorem cfold_lt (l : List Nat) (h8 : ∀ x ∈ l, x < 256) : ∀ {s : Nat}, s < 4294967296 → cfold s l < 4294967296 := by
  induction l with
  | nil => intro s h; exact h
  | cons x l ih =>
    intro s h
    have := h8 x (by simp)
    exact ih (fun y hy => h8 y (by simp [hy])) (csteps_lt 8 (xor_lt h (by omega)))
theorem crc_lt (l : List Nat) (h8 : ∀ x ∈ l, x < 256) : crc l < 4294967296 := xor_lt (cfold_lt l h8 (by omega)) (by omega)
theorem cfold_snoc (s : Nat) (l : List Nat) (x : Nat) : cfold s (l ++ [x]) = csteps 8 (cfold s l ^^^ x) := by simp [cfold]

theorem cstep_xor (a b : Nat) : cstep (a ^^^ b) = cstep a ^^^ cstep b := by
  unfold cstep
  have h1 : (a ^^^ b) / 2 = a / 2 ^^^ b / 2 := by
    have := Nat.xor_div_two_pow (a := a) (b := b) (n := 1)
    simpa using this
  have h2 : (a ^^^ b) % 2 = (a % 2) ^^^ (b % 2) := by
    have := Nat.xor_mod_two_pow (a := a) (b := b) (n := 1)
    simpa using this
  rw [h1, h2]
  have h3 : poly * ((a % 2) ^^^ (b % 2)) = (poly * (a % 2)) ^^^ (poly * (b % 2)) := by
    rcases Nat.mod_two_eq_zero_or_one a with ha | ha <;> rcases Nat.mod_two_eq_zero_or_one b with hb | hb <;> simp [ha, hb]
  rw [h3]
  ac_rfl
theorem csteps_xor (k a b : Nat) : csteps k (a ^^^ b) = csteps k a ^^^ csteps k b := by
  induction k with
  | zero => rfl
  | succ k ih => simp only [csteps, ih, cstep_xor]
theorem cstep_even (h : Nat) : cstep (2 * h) = h := by
  unfold cstep
  rw [Nat.mul_mod_right, Nat.mul_zero, Nat.xor_zero]
  omega
theorem csteps_high (h : Nat) : csteps 8 (256 * h) = h := by
  have e1 : 256 * h = 2 * (128 * h) := by omega
  have e2 : 128 * h = 2 * (64 * h) := by omega
  have e3 : 64 * h = 2 * (32 * h) := by omega
  have e4 : 32 * h = 2 * (16 * h) := by omega
  have e5 : 16 * h = 2 * (8 * h) := by omega
  have e6 : 8 * h = 2 * (4 * h) := by omega
  have e7 : 4 * h = 2 * (2 * h) := by omega
  simp only [csteps]
  rw [e1, cstep_even, e2, cstep_even, e3, cstep_even, e4, cstep_even, e5, cstep_even, e6, cstep_even, e7, cstep_even, cstep_even]
theorem split_xor (n : Nat) : n = (n % 256) ^^^ (256 * (n / 256)) := by
  have h1 : (256 * (n / 256)) ||| (n % 256) = 256 * (n / 256) + n % 256 := by
    have := Nat.two_pow_add_eq_or_of_lt (i := 8) (b := n % 256) (by omega) (n / 256)
    simpa using this.symm
  apply Nat.eq_of_testBit_eq
  intro i
  rw [Nat.testBit_xor]
  have h2 : n.testBit i = ((256 * (n / 256)) ||| (n % 256)).testBit i := by rw [h1, Nat.div_add_mod]
  rw [h2, Nat.testBit_or]
  by_cases hi : i < 8
  · have : (256 * (n / 256)).testBit i = false := by
      rw [show 256 * (n / 256) = 2 ^ 8 * (n / 256) from rfl, Nat.testBit_two_pow_mul]
      simp; omega
    rw [this]; simp
  · have : (n % 256).testBit i = false := by
      have h3 : 2 ^ 8 ≤ 2 ^ i := Nat.pow_le_pow_right (by omega) (show 8 ≤ i by omega)
      have h4 : n % 256 < 2 ^ 8 := Nat.mod_lt _ (by omega)
      exact Nat.testBit_lt_two_pow (by omega)
    rw [this]; simp
/-- one byte, by the table -/
theorem csteps_table (n x : Nat) : csteps 8 (n ^^^ x) = csteps 8 ((n % 256) ^^^ x) ^^^ (n / 256) := by
  have h : n ^^^ x = ((n % 256) ^^^ x) ^^^ (256 * (n / 256)) := by
    have := split_xor n
    generalize n % 256 = a at *
    generalize 256 * (n / 256) = b at *
    rw [this]; ac_rfl
  rw [h, csteps_xor, csteps_high]
theorem crc_example : crc [49, 50, 51, 52, 53, 54, 55, 56, 57] = 3421780262 := by decide +kernel
end Go.Gy
