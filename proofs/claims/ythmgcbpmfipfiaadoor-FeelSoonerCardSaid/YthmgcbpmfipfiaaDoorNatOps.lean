/- Products, quotients, shifts, comparisons, digit by digit. Conditions: those typed. -/
import Derived.Test.YthmgcbpmfipfiaaDoorNatDigits
namespace Go.Proofs.YthmgcbpmfipfiaaDoor
set_option linter.unusedVariables false
theorem dig_lt {B : Nat} (hB : 0 < B) (N j : Nat) : N / B ^ j % B < B := Nat.mod_lt _ hB
theorem div_succ' (B N j : Nat) : N / B ^ (j + 1) = N / B ^ j / B := by rw [Nat.div_div_eq_div_mul, Nat.pow_succ]
/-- the number behind the set of a digit -/
def updN (B N j v : Nat) : Nat := N % B ^ j + B ^ j * (v + B * (N / B ^ (j + 1)))
theorem updN_eq {B : Nat} (hB : 0 < B) (N j v : Nat) : updN B N j v + B ^ j * (N / B ^ j % B) = N + B ^ j * v := by
  have h1 := split_at hB N j
  unfold updN
  rw [Nat.pow_succ] at *
  grind
theorem updN_digs {B m N j v : Nat} (hB : 0 < B) (hj : j < m) (hv : v < B) : (digs B m N).set j v = digs B m (updN B N j v) := digs_upd hB hj hv (updN_eq hB N j v)
theorem updN_high {B N j v : Nat} (hB : 0 < B) (hv : v < B) : updN B N j v / B ^ (j + 1) = N / B ^ (j + 1) := by
  rw [div_succ' B (updN B N j v)]
  unfold updN
  rw [low_div (Nat.mod_lt _ (pow_pos' hB j)), Nat.add_mul_div_left _ _ hB, Nat.div_eq_of_lt hv, Nat.zero_add]
theorem updN_lt {B N j v M : Nat} (hB : 0 < B) (hv : v < B) (hj : j < M) (hN : N < B ^ M) : updN B N j v < B ^ M := by
  have h1 := updN_high (N := N) (j := j) hB hv
  have hp := pow_pos' hB (j + 1)
  obtain ⟨k, rfl⟩ : ∃ k, M = (j + 1) + k := ⟨M - j - 1, by omega⟩
  rw [Nat.pow_add] at hN ⊢
  have h2 : N / B ^ (j + 1) < B ^ k := by rw [Nat.div_lt_iff_lt_mul hp, Nat.mul_comm]; exact hN
  rw [← h1, Nat.div_lt_iff_lt_mul hp, Nat.mul_comm] at h2
  exact h2
/-- multiplication: one step -/
theorem mul_tot {B c x y o : Nat} (hB : 0 < B) (hc : c < B) (hx : x < B) (hy : y < B) (ho : o < B) : c + x * y + o < B * B := by
  have h1 : x * y ≤ (B - 1) * (B - 1) := Nat.mul_le_mul (by omega) (by omega)
  obtain ⟨b, rfl⟩ : ∃ b, B = b + 1 := ⟨B - 1, by omega⟩
  rw [Nat.add_sub_cancel] at h1
  grind
theorem mul_step {B X Y i k N c : Nat} (hB : 0 < B) (h : N + c * B ^ (i + k) = X % B ^ i * Y + B ^ i * (X / B ^ i % B) * (Y % B ^ k)) :
    updN B N (i + k) ((c + X / B ^ i % B * (Y / B ^ k % B) + N / B ^ (i + k) % B) % B) + (c + X / B ^ i % B * (Y / B ^ k % B) + N / B ^ (i + k) % B) / B * B ^ (i + (k + 1)) = X % B ^ i * Y + B ^ i * (X / B ^ i % B) * (Y % B ^ (k + 1)) := by
  have h1 := updN_eq hB N (i + k) ((c + X / B ^ i % B * (Y / B ^ k % B) + N / B ^ (i + k) % B) % B)
  rw [mod_succ]
  generalize updN B N (i + k) ((c + X / B ^ i % B * (Y / B ^ k % B) + N / B ^ (i + k) % B) % B) = N' at *
  have h2 := Nat.mod_add_div (c + X / B ^ i % B * (Y / B ^ k % B) + N / B ^ (i + k) % B) B
  rw [← Nat.add_assoc, Nat.pow_succ]
  rw [Nat.pow_add] at *
  generalize (c + X / B ^ i % B * (Y / B ^ k % B) + N / (B ^ i * B ^ k) % B) / B = t1 at *
  generalize (c + X / B ^ i % B * (Y / B ^ k % B) + N / (B ^ i * B ^ k) % B) % B = t2 at *
  generalize X / B ^ i % B = x at *
  generalize Y / B ^ k % B = y at *
  generalize X % B ^ i = xl at *
  generalize Y % B ^ k = yl at *
  generalize N / (B ^ i * B ^ k) % B = o at *
  generalize B ^ i = p at *
  generalize B ^ k = r at *
  have h3 : p * r * (t2 + B * t1) = p * r * (c + x * y + o) := by rw [h2]
  grind
theorem mul_start (B X Y i : Nat) : X % B ^ i * Y + 0 * B ^ (i + 0) = X % B ^ i * Y + B ^ i * (X / B ^ i % B) * (Y % B ^ 0) := by simp [Nat.mod_one]
theorem mul_row {B X Y i ly N c : Nat} (hB : 0 < B) (hY : Y < B ^ ly) (h : N + c * B ^ (i + ly) = X % B ^ i * Y + B ^ i * (X / B ^ i % B) * (Y % B ^ ly)) : N + B ^ (i + ly) * c = X % B ^ (i + 1) * Y := by
  rw [Nat.mod_eq_of_lt hY] at h
  rw [mod_succ]
  grind
theorem mul_row_lt {B X Y i ly : Nat} (hB : 0 < B) (hY : Y < B ^ ly) : X % B ^ i * Y < B ^ (i + ly) := by
  rw [Nat.pow_add]
  have h1 := Nat.mod_lt X (pow_pos' hB i)
  exact Nat.lt_of_le_of_lt (Nat.mul_le_mul_left _ (Nat.le_of_lt hY)) (Nat.mul_lt_mul_of_pos_right h1 (pow_pos' hB ly))
/-- division by one digit: what stands behind the digits from i on -/
def divN (B X y i : Nat) : Nat := X % B ^ i + B ^ i * (X / B ^ i / y)
theorem divN_top {B X y m : Nat} (hX : X < B ^ m) : divN B X y m = X := by unfold divN; rw [Nat.mod_eq_of_lt hX, Nat.div_eq_of_lt hX]; simp
theorem divN_zero (B X y : Nat) : divN B X y 0 = X / y := by simp [divN, Nat.mod_one]
theorem divN_dig {B : Nat} (hB : 0 < B) (X y j : Nat) : divN B X y (j + 1) / B ^ j % B = X / B ^ j % B := by
  unfold divN
  rw [mod_succ, Nat.add_assoc, Nat.pow_succ, Nat.mul_assoc, ← Nat.mul_add, low_div (Nat.mod_lt _ (pow_pos' hB j)), Nat.add_mul_mod_self_left, Nat.mod_mod]
theorem div_step {B h d y : Nat} (hy : 0 < y) : (d + B * h) / y = B * (h / y) + (h % y * B + d) / y ∧ (d + B * h) % y = (h % y * B + d) % y := by
  have h1 := Nat.mod_add_div h y
  have e : d + B * h = (h % y * B + d) + y * (B * (h / y)) := by
    have : B * h = B * (h % y + y * (h / y)) := by rw [h1]
    rw [this]; grind
  rw [e]
  exact ⟨by rw [Nat.add_mul_div_left _ _ hy, Nat.add_comm], by rw [Nat.add_mul_mod_self_left]⟩
theorem divN_digs {B X y j m : Nat} (hB : 0 < B) (hy : 0 < y) (hj : j < m) : (digs B m (divN B X y (j + 1))).set j ((X / B ^ (j + 1) % y * B + X / B ^ j % B) / y) = digs B m (divN B X y j) := by
  have hd := dig_lt hB X j
  have hr : X / B ^ (j + 1) % y < y := Nat.mod_lt _ hy
  have hlt : (X / B ^ (j + 1) % y * B + X / B ^ j % B) / y < B := by
    rw [Nat.div_lt_iff_lt_mul hy]
    have : (X / B ^ (j + 1) % y + 1) * B ≤ y * B := Nat.mul_le_mul_right B hr
    rw [Nat.add_mul, Nat.one_mul, Nat.mul_comm y B] at this
    omega
  refine digs_upd hB hj hlt ?_
  rw [divN_dig hB]
  unfold divN
  have e1 : X / B ^ j = X / B ^ j % B + B * (X / B ^ (j + 1)) := by rw [div_succ', Nat.mod_add_div]
  rw [mod_succ B X j, Nat.pow_succ]
  rw [Nat.pow_succ] at e1
  have e2 := (div_step (B := B) (h := X / (B ^ j * B)) (d := X / B ^ j % B) hy).1
  rw [← e1] at e2
  rw [e2]
  grind
theorem rest_step {B X y j : Nat} (hB : 0 < B) (hy : 0 < y) : (X / B ^ (j + 1) % y * B + X / B ^ j % B) % y = X / B ^ j % y := by
  have e1 : X / B ^ j = X / B ^ j % B + B * (X / B ^ (j + 1)) := by rw [div_succ', Nat.mod_add_div]
  have e2 := (div_step (B := B) (h := X / B ^ (j + 1)) (d := X / B ^ j % B) hy).2
  rw [← e1] at e2
  exact e2.symm
/-- a shift left, digit by digit -/
theorem shl_step {B : Nat} (hB : 0 < B) (X i p : Nat) : X % B ^ (i + 1) * p = X % B ^ i * p + B ^ i * (X / B ^ i % B * p) := by rw [mod_succ]; grind
theorem shl_lt {B p : Nat} (hB : 0 < B) (hp : p ≤ B) (X i : Nat) : X % B ^ i * p < B ^ (i + 1) := by
  rw [Nat.pow_succ]
  exact Nat.lt_of_le_of_lt (Nat.mul_le_mul_left _ hp) (Nat.mul_lt_mul_of_pos_right (Nat.mod_lt _ (pow_pos' hB i)) hB)
theorem shl_top {B p : Nat} (hB : 0 < B) (hp : 0 < p) (X i : Nat) : X % B ^ i * p / B ^ i < p := by
  rw [Nat.div_lt_iff_lt_mul (pow_pos' hB i), Nat.mul_comm p]
  exact Nat.mul_lt_mul_of_pos_right (Nat.mod_lt _ (pow_pos' hB i)) hp
/-- both digits of a step of a shift left -/
theorem shl_digs {B p X i m : Nat} (hB : 0 < B) (hp : 0 < p) (hpB : p ≤ B) (hi : i + 1 < m) (hs : X % B ^ i * p / B ^ i + X / B ^ i % B * p % B < B) :
    ((digs B m (X % B ^ i * p)).set i (X % B ^ i * p / B ^ i + X / B ^ i % B * p % B)).set (i + 1) (X / B ^ i % B * p / B) = digs B m (X % B ^ (i + 1) * p) := by
  have h1 := shl_lt hB hpB X i
  have hd := dig_lt hB X i
  have ht : X % B ^ i * p / B ^ i % B = X % B ^ i * p / B ^ i := Nat.mod_eq_of_lt (by
    rw [Nat.div_lt_iff_lt_mul (pow_pos' hB i), Nat.mul_comm B]
    rw [Nat.pow_succ] at h1
    exact h1)
  have e1 : (digs B m (X % B ^ i * p)).set i (X % B ^ i * p / B ^ i + X / B ^ i % B * p % B) = digs B m (X % B ^ i * p + B ^ i * (X / B ^ i % B * p % B)) :=
    digs_upd hB (by omega) hs (by rw [ht]; grind)
  have hlt : X % B ^ i * p + B ^ i * (X / B ^ i % B * p % B) < B ^ (i + 1) := by
    have h2 := Nat.mod_add_div (X % B ^ i * p) (B ^ i)
    have h3 : X % B ^ i * p + B ^ i * (X / B ^ i % B * p % B) = X % B ^ i * p % B ^ i + B ^ i * (X % B ^ i * p / B ^ i + X / B ^ i % B * p % B) := by grind
    rw [h3, Nat.pow_succ]
    have h4 := Nat.mod_lt (X % B ^ i * p) (pow_pos' hB i)
    have h5 : B ^ i * (X % B ^ i * p / B ^ i + X / B ^ i % B * p % B + 1) ≤ B ^ i * B := Nat.mul_le_mul_left _ hs
    rw [Nat.mul_add] at h5
    omega
  have hq : X / B ^ i % B * p / B < B := by
    rw [Nat.div_lt_iff_lt_mul hB]
    exact Nat.lt_of_le_of_lt (Nat.mul_le_mul_left _ hpB) (Nat.mul_lt_mul_of_pos_right hd hB)
  rw [e1, digs_put hB hi hlt hq, shl_step hB, Nat.pow_succ, Nat.add_assoc]
  have h6 := Nat.mod_add_div (X / B ^ i % B * p) B
  have e2 : B ^ i * (X / B ^ i % B * p % B) + B ^ i * B * (X / B ^ i % B * p / B) = B ^ i * (X / B ^ i % B * p) := by
    rw [Nat.mul_assoc, ← Nat.mul_add, h6]
  rw [e2]
/-- a shift right in place -/
def shrN (B U p i : Nat) : Nat := U / p % B ^ i + B ^ i * (U / B ^ i)
theorem shrN_zero (B U p : Nat) : shrN B U p 0 = U := by simp [shrN, Nat.mod_one]
theorem shrN_end {B U p n : Nat} (hU : U < B ^ n) : shrN B U p n = U / p := by
  unfold shrN
  rw [Nat.div_eq_of_lt hU, Nat.mod_eq_of_lt (Nat.lt_of_le_of_lt (Nat.div_le_self _ _) hU)]
  rfl
theorem shrN_dig {B : Nat} (hB : 0 < B) (U p i : Nat) : shrN B U p i / B ^ i = U / B ^ i := low_div (Nat.mod_lt _ (pow_pos' hB i))
theorem shrN_next {B : Nat} (hB : 0 < B) (U p i : Nat) : shrN B U p i / B ^ (i + 1) = U / B ^ (i + 1) := by rw [div_succ', shrN_dig hB, div_succ']
theorem shrN_digs {B U p i m : Nat} (hB : 0 < B) (hi : i < m) : (digs B m (shrN B U p i)).set i (U / p / B ^ i % B) = digs B m (shrN B U p (i + 1)) := by
  refine digs_upd hB hi (dig_lt hB _ _) ?_
  rw [shrN_dig hB]
  unfold shrN
  rw [mod_succ, Nat.pow_succ]
  have e1 : U / B ^ i = U / B ^ i % B + B * (U / B ^ (i + 1)) := by rw [div_succ', Nat.mod_add_div]
  rw [Nat.pow_succ] at e1
  grind
/-- the digit of a number that is shifted right, from two digits -/
theorem shr_dig {p q U i : Nat} (hp : 0 < p) (hq : 0 < q) : U / p / (p * q) ^ i % (p * q) = U / (p * q) ^ i % (p * q) / p + U / (p * q) ^ (i + 1) % (p * q) * q % (p * q) := by
  have e1 : U / p / (p * q) ^ i = U / (p * q) ^ i / p := by rw [Nat.div_div_eq_div_mul, Nat.div_div_eq_div_mul, Nat.mul_comm]
  rw [e1, div_succ' (p * q)]
  generalize U / (p * q) ^ i = V
  have hpq : 0 < p * q := Nat.mul_pos hp hq
  obtain ⟨a, b, rfl, ha⟩ : ∃ a b, V = a + (p * q) * b ∧ a < p * q := ⟨V % (p * q), V / (p * q), (Nat.mod_add_div _ _).symm, Nat.mod_lt _ hpq⟩
  rw [Nat.add_mul_mod_self_left, Nat.mod_eq_of_lt ha, Nat.add_mul_div_left _ _ hpq, Nat.div_eq_of_lt ha, Nat.zero_add, Nat.mul_assoc, Nat.add_mul_div_left _ _ hp]
  have ha2 : a / p < q := by rw [Nat.div_lt_iff_lt_mul hp, Nat.mul_comm]; exact ha
  have e2 : b % (p * q) * q % (p * q) = q * (b % p) := by
    rw [Nat.mul_comm _ q, Nat.mul_comm p q, Nat.mul_mod_mul_left]
    congr 1
    rw [Nat.mul_comm q p, Nat.mod_mul_right_mod]
  rw [e2]
  have e3 : a / p + q * b = (a / p + q * (b % p)) + (p * q) * (b / p) := by
    have h1 := Nat.mod_add_div b p
    have : q * b = q * (b % p + p * (b / p)) := by rw [h1]
    grind
  rw [e3, Nat.add_mul_mod_self_left, Nat.mod_eq_of_lt]
  have hb : b % p + 1 ≤ p := Nat.mod_lt _ hp
  have h2 : q * (b % p + 1) ≤ q * p := Nat.mul_le_mul_left q hb
  rw [Nat.mul_add, Nat.mul_comm q p] at h2
  omega
/-- comparison from the top -/
theorem dig_cmp {B X Y i : Nat} (hB : 0 < B) (h : X / B ^ (i + 1) = Y / B ^ (i + 1)) (hl : X / B ^ i % B < Y / B ^ i % B) : X < Y := by
  have h1 := split_at hB X i
  have h2 := split_at hB Y i
  rw [h] at h1
  have h3 := Nat.mod_lt X (pow_pos' hB i)
  have h4 : B ^ i * (X / B ^ i % B + 1) ≤ B ^ i * (Y / B ^ i % B) := Nat.mul_le_mul_left _ hl
  rw [Nat.mul_add] at h4
  generalize B ^ (i + 1) * (Y / B ^ (i + 1)) = z at *
  generalize B ^ i * (X / B ^ i % B) = x at *
  generalize B ^ i * (Y / B ^ i % B) = y at *
  generalize X % B ^ i = xl at *
  generalize Y % B ^ i = yl at *
  generalize B ^ i = p at *
  omega
theorem dig_same {B X Y i : Nat} (h : X / B ^ (i + 1) = Y / B ^ (i + 1)) (hl : X / B ^ i % B = Y / B ^ i % B) : X / B ^ i = Y / B ^ i := by
  rw [div_succ', div_succ'] at h
  rw [← Nat.mod_add_div (X / B ^ i) B, ← Nat.mod_add_div (Y / B ^ i) B, h, hl]
/-- the last digit is zero -/
theorem top_zero {B X m : Nat} (hB : 0 < B) (hX : X < B ^ (m + 1)) (h : X / B ^ m % B = 0) : X < B ^ m := by
  have h1 : X / B ^ m < B := by
    rw [Nat.div_lt_iff_lt_mul (pow_pos' hB m), Nat.mul_comm]
    rwa [Nat.pow_succ] at hX
  rw [Nat.mod_eq_of_lt h1] at h
  rcases Nat.lt_or_ge X (B ^ m) with h2 | h2
  · exact h2
  · have := Nat.div_pos h2 (pow_pos' hB m)
    omega
theorem top_pos {B X m : Nat} (hB : 0 < B) (h : X / B ^ m % B ≠ 0) : B ^ m ≤ X := by
  rcases Nat.lt_or_ge X (B ^ m) with h2 | h2
  · rw [Nat.div_eq_of_lt h2] at h; simp at h
  · exact h2
end Go.Proofs.YthmgcbpmfipfiaaDoor
