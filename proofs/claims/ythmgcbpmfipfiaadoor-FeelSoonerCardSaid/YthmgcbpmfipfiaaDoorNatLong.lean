/- Long division: the guess of a digit, what is taken away and put back. Conditions: those typed. -/
import Derived.Test.YthmgcbpmfipfiaaDoorNatOps
namespace Go.Proofs.YthmgcbpmfipfiaaDoor
set_option linter.unusedVariables false
theorem lt_of_mul_lt {a b p : Nat} (h : a * p < b * p) : a < b := Nat.lt_of_mul_lt_mul_right h
theorem guess_hi {B P v1 v2 vr V t u2 wr W q : Nat} (hV : V = (v1 * B + v2) * P + vr) (hW : W = (t * B + u2) * P + wr) (hwr : wr < P) (hu2 : u2 < B) (h1 : 0 < v1) (hq : q * V ≤ W) : q ≤ t / v1 := by
  rw [Nat.le_div_iff_mul_le h1]
  have e1 : q * v1 * (B * P) ≤ q * V := by
    rw [hV]
    have : q * v1 * (B * P) = q * (v1 * B * P) := by grind
    rw [this]
    exact Nat.mul_le_mul_left q (by rw [Nat.add_mul]; omega)
  have e2 : W < (t + 1) * (B * P) := by
    rw [hW]
    have h3 : (t * B + u2 + 1) * P ≤ (t * B + B) * P := Nat.mul_le_mul_right P (by omega)
    grind
  have := lt_of_mul_lt (a := q * v1) (b := t + 1) (p := B * P) (by omega)
  omega
theorem guess_lo {B P v1 v2 vr V t u2 wr W q d r : Nat} (hV : V = (v1 * B + v2) * P + vr) (hW : W = (t * B + u2) * P + wr) (hwr : wr < P) (hd : d * v1 + r = t) (hc : r * B + u2 < d * v2) (hq : q * V ≤ W) : q < d := by
  refine Nat.lt_of_not_le fun hle => ?_
  have h1 : d * V ≤ W := Nat.le_trans (Nat.mul_le_mul_right V hle) hq
  have h2 : d * ((v1 * B + v2) * P) ≤ d * V := Nat.mul_le_mul_left d (by omega)
  have h3 : d * (v1 * B + v2) * P < (t * B + u2 + 1) * P := by
    have : W < (t * B + u2 + 1) * P := by rw [hW]; grind
    have e : d * (v1 * B + v2) * P = d * ((v1 * B + v2) * P) := by grind
    omega
  have h4 := lt_of_mul_lt h3
  rw [← hd] at h4
  have e : d * (v1 * B + v2) = d * v1 * B + d * v2 := by grind
  have e2 : (d * v1 + r) * B = d * v1 * B + r * B := by grind
  omega
/-- the guess is too great by at most 1 -/
theorem guess_near {B P v1 v2 vr V t u2 wr W d : Nat} (hV : V = (v1 * B + v2) * P + vr) (hW : W = (t * B + u2) * P + wr) (hvr : vr < P) (h1 : 0 < v1) (hdB : d < B) (hc : d * (v1 * B + v2) ≤ t * B + u2) : d * V ≤ W + V := by
  cases d with
  | zero => omega
  | succ d =>
    have hB : B ≤ v1 * B := Nat.le_mul_of_pos_left B h1
    obtain ⟨x, hx⟩ : ∃ x, x = v1 * B + v2 := ⟨_, rfl⟩
    rw [← hx] at hc hV
    have h2 : d * V ≤ d * ((x + 1) * P) := Nat.mul_le_mul_left d (by rw [hV]; grind)
    have h3 : d * (x + 1) ≤ (d + 1) * x := by grind
    have h4 : d * (x + 1) * P ≤ (t * B + u2) * P := Nat.mul_le_mul_right P (by omega)
    have e : d * ((x + 1) * P) = d * (x + 1) * P := by grind
    have e2 : (d + 1) * V = d * V + V := by grind
    omega
/-- where the guess is left with a great rest -/
theorem guess_rest {B v1 v2 V t u2 d r : Nat} (hv2 : v2 < B) (hd : d * v1 + r = t) (hr : B ≤ r) (hdB : d < B) : d * (v1 * B + v2) ≤ t * B + u2 := by
  have h1 : d * v2 ≤ B * B := Nat.mul_le_mul (by omega) (by omega)
  have h2 : B * B ≤ r * B := Nat.mul_le_mul_right B hr
  have e : d * (v1 * B + v2) = d * v1 * B + d * v2 := by grind
  have e2 : t * B = d * v1 * B + r * B := by rw [← hd]; grind
  omega
theorem guess_top {B P v1 v2 vr V t u2 wr W : Nat} (hV : V = (v1 * B + v2) * P + vr) (hvr : vr < P) (hv2 : v2 < B) (hW : W = (t * B + u2) * P + wr) (h : W < V * B) : t < (v1 + 1) * B := by
  have hP : 0 < P := by omega
  have h1 : V < (v1 + 1) * B * P := by
    rw [hV]
    have : (v1 * B + v2 + 1) * P ≤ (v1 * B + B) * P := Nat.mul_le_mul_right P (by omega)
    grind
  have hB : 0 < B := by omega
  have h2 : t * (B * P) < (v1 + 1) * B * (B * P) := by
    have e1 : t * (B * P) ≤ W := by rw [hW]; grind
    have e2 : V * B < (v1 + 1) * B * P * B := Nat.mul_lt_mul_of_pos_right h1 hB
    grind
  exact lt_of_mul_lt h2
theorem guess_small {B v1 t d r : Nat} (hd : d * v1 + r = t) (hr : B ≤ r) (ht : t < (v1 + 1) * B) : d < B := by
  refine lt_of_mul_lt (p := v1) ?_
  grind
/-- one step of taking away -/
theorem take_step {B n W V d i N c b : Nat} (hB : 1 < B) (h : N + d * (V % B ^ i) = W + (c + b) * B ^ i) (hN : N / B ^ i = W / B ^ i) (hb : b ≤ 1) (hc : c < B) (hd : d < B) :
    let t := c + d * (V / B ^ i % B)
    let v := (W / B ^ i % B + B - t % B + B - b) % B
    let b' := if W / B ^ i % B < t % B + b then 1 else 0
    updN B N i v + d * (V % B ^ (i + 1)) = W + (t / B + b') * B ^ (i + 1) ∧ updN B N i v / B ^ (i + 1) = W / B ^ (i + 1) ∧ t / B < B ∧ b' ≤ 1 ∧ v < B := by
  intro t v b'
  have hB0 : 0 < B := by omega
  have hv : v < B := Nat.mod_lt _ hB0
  have hdv : d * (V / B ^ i % B) ≤ (B - 1) * (B - 1) := Nat.mul_le_mul (by omega) (by have := dig_lt hB0 V i; omega)
  have ht : t / B < B := by
    rw [Nat.div_lt_iff_lt_mul hB0]
    obtain ⟨k, rfl⟩ : ∃ k, B = k + 1 := ⟨B - 1, by omega⟩
    rw [Nat.add_sub_cancel] at hdv
    show c + _ < _
    grind
  have hb' : b' ≤ 1 := by show (if _ then 1 else 0) ≤ 1; split <;> omega
  refine ⟨?_, ?_, ht, hb', hv⟩
  · have h1 := updN_eq hB0 N i v
    rw [hN] at h1
    have h2 : v + t % B + b = W / B ^ i % B + B * b' := by
      have hu := dig_lt hB0 W i
      have htB : t % B < B := Nat.mod_lt _ hB0
      show (W / B ^ i % B + B - t % B + B - b) % B + t % B + b = W / B ^ i % B + B * (if W / B ^ i % B < t % B + b then 1 else 0)
      generalize W / B ^ i % B = u at *
      generalize t % B = s at *
      by_cases hlt : u < s + b
      · rw [if_pos hlt]
        rcases Nat.lt_or_ge (u + B) (s + b) with h3 | h3
        · omega
        · by_cases h4 : u + B - s - b < B
          · have : u + B - s + B - b = (u + B - s - b) + B := by omega
            rw [this, Nat.add_mod_right, Nat.mod_eq_of_lt h4]
            omega
          · omega
      · rw [if_neg hlt]
        have : u + B - s + B - b = (u - s - b) + B + B := by omega
        rw [this, Nat.add_mod_right, Nat.add_mod_right, Nat.mod_eq_of_lt (by omega)]
        omega
    have h3 := Nat.mod_add_div t B
    rw [mod_succ, Nat.pow_succ]
    have h4 : t = c + d * (V / B ^ i % B) := rfl
    generalize updN B N i v = N' at *
    generalize t / B = t1 at *
    generalize t % B = t2 at *
    generalize W / B ^ i % B = u at *
    generalize V / B ^ i % B = y at *
    generalize V % B ^ i = vl at *
    generalize B ^ i = p at *
    have h5 : p * (v + t2 + b) = p * (u + B * b') := by rw [h2]
    have h6 : p * (t2 + B * t1) = p * (c + d * y) := by rw [h3, h4]
    clear_value t v b'
    grind
  · rw [updN_high hB0 hv, div_succ', hN, div_succ']
theorem take_end {B n W V d N c b : Nat} (hB : 1 < B) (h : N + d * (V % B ^ n) = W + (c + b) * B ^ n) (hN : N / B ^ n = W / B ^ n) (hV : V < B ^ n) (hW : W < B ^ (n + 1)) (hb : b ≤ 1) (hc : c < B) :
    let v := (W / B ^ n % B + B - c + B - b) % B
    let b' := if W / B ^ n % B < c + b then 1 else 0
    updN B N n v + d * V = W + b' * B ^ (n + 1) ∧ updN B N n v < B ^ (n + 1) ∧ v < B := by
  intro v b'
  have hB0 : 0 < B := by omega
  have hv : v < B := Nat.mod_lt _ hB0
  have hNl : N < B ^ (n + 1) := by
    have : N / B ^ n < B := by rw [hN, Nat.div_lt_iff_lt_mul (pow_pos' hB0 n), Nat.mul_comm, ← Nat.pow_succ]; exact hW
    rw [Nat.div_lt_iff_lt_mul (pow_pos' hB0 n), Nat.mul_comm, ← Nat.pow_succ] at this
    exact this
  refine ⟨?_, updN_lt hB0 hv (by omega) hNl, hv⟩
  have h1 := updN_eq hB0 N n v
  rw [hN] at h1
  rw [Nat.mod_eq_of_lt hV] at h
  have h2 : v + c + b = W / B ^ n % B + B * b' := by
    have hu := dig_lt hB0 W n
    show (W / B ^ n % B + B - c + B - b) % B + c + b = W / B ^ n % B + B * (if W / B ^ n % B < c + b then 1 else 0)
    generalize W / B ^ n % B = u at *
    by_cases hlt : u < c + b
    · rw [if_pos hlt]
      have : u + B - c + B - b = (u + B - c - b) + B := by omega
      rw [this, Nat.add_mod_right, Nat.mod_eq_of_lt (by omega)]
      omega
    · rw [if_neg hlt]
      have : u + B - c + B - b = (u - c - b) + B + B := by omega
      rw [this, Nat.add_mod_right, Nat.add_mod_right, Nat.mod_eq_of_lt (by omega)]
      omega
  rw [Nat.pow_succ]
  generalize updN B N n v = N' at *
  generalize W / B ^ n % B = u at *
  generalize B ^ n = p at *
  have h5 : p * (v + c + b) = p * (u + B * b') := by rw [h2]
  clear_value v b'
  grind
/-- one step of putting back -/
theorem back_step {B M V i N c : Nat} (hB : 1 < B) (h : N + c * B ^ i = M + V % B ^ i) (hN : N / B ^ i = M / B ^ i) (hc : c ≤ 1) :
    let t := c + M / B ^ i % B + V / B ^ i % B
    updN B N i (t % B) + t / B * B ^ (i + 1) = M + V % B ^ (i + 1) ∧ updN B N i (t % B) / B ^ (i + 1) = M / B ^ (i + 1) ∧ t / B ≤ 1 := by
  intro t
  have hB0 : 0 < B := by omega
  have hv : t % B < B := Nat.mod_lt _ hB0
  have h1 := updN_eq hB0 N i (t % B)
  rw [hN] at h1
  refine ⟨?_, ?_, ?_⟩
  · have h3 := Nat.mod_add_div t B
    rw [mod_succ, Nat.pow_succ]
    have h4 : t = c + M / B ^ i % B + V / B ^ i % B := rfl
    generalize updN B N i (t % B) = N' at *
    generalize t / B = t1 at *
    generalize t % B = t2 at *
    generalize M / B ^ i % B = u at *
    generalize V / B ^ i % B = y at *
    generalize V % B ^ i = vl at *
    generalize B ^ i = p at *
    have h6 : p * (t2 + B * t1) = p * (c + u + y) := by rw [h3, h4]
    clear_value t
    grind
  · rw [updN_high hB0 hv, div_succ', hN, div_succ']
  · have hx := dig_lt hB0 M i
    have hy := dig_lt hB0 V i
    have : t < 2 * B := by show c + _ + _ < _; omega
    have h2 : t / B < 2 := by rw [Nat.div_lt_iff_lt_mul hB0]; exact this
    omega
theorem back_end {B n M V N c : Nat} (hB : 1 < B) (h : N + c * B ^ n = M + V % B ^ n) (hN : N / B ^ n = M / B ^ n) (hV : V < B ^ n) (hM : M < B ^ (n + 1)) :
    updN B N n ((M / B ^ n % B + c) % B) = (M + V) % B ^ (n + 1) := by
  have hB0 : 0 < B := by omega
  have hv : (M / B ^ n % B + c) % B < B := Nat.mod_lt _ hB0
  rw [Nat.mod_eq_of_lt hV] at h
  rw [← h, mod_succ, Nat.add_mul_mod_self_right, Nat.add_mul_div_right _ _ (pow_pos' hB0 n), hN]
  unfold updN
  have e1 : N / B ^ (n + 1) = 0 := by
    rw [div_succ', hN, ← div_succ', Nat.div_eq_of_lt hM]
  rw [e1]
  simp [Nat.add_mod]
end Go.Proofs.YthmgcbpmfipfiaaDoor
