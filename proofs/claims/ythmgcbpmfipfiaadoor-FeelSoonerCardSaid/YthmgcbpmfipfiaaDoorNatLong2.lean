/- Long division: one digit, and all of them. Conditions: those typed. -/
import Derived.Test.YthmgcbpmfipfiaaDoorNatLong
namespace Go.Proofs.YthmgcbpmfipfiaaDoor
set_option linter.unusedVariables false
theorem two_top {B n W : Nat} (hB : 0 < B) (hn : 2 ≤ n) : W = (W / B ^ (n - 1) * B + W / B ^ (n - 2) % B) * B ^ (n - 2) + W % B ^ (n - 2) := by
  have h1 := Nat.mod_add_div W (B ^ (n - 2))
  have h2 := Nat.mod_add_div (W / B ^ (n - 2)) B
  have h3 : W / B ^ (n - 1) = W / B ^ (n - 2) / B := by rw [Nat.div_div_eq_div_mul, show n - 1 = n - 2 + 1 by omega, Nat.pow_succ]
  rw [h3, Nat.mul_comm _ B, Nat.add_comm (B * _), h2, Nat.mul_comm, Nat.add_comm]
  exact h1.symm
/-- the top digits of the window, as one number -/
theorem top_two {B n W : Nat} (hB : 0 < B) (hn : 1 ≤ n) (hW : W < B ^ (n + 1)) : W / B ^ n % B * B + W / B ^ (n - 1) % B = W / B ^ (n - 1) := by
  have h1 : W / B ^ n < B := by
    rw [Nat.div_lt_iff_lt_mul (pow_pos' hB n), Nat.mul_comm, ← Nat.pow_succ]; exact hW
  rw [Nat.mod_eq_of_lt h1]
  have h3 : W / B ^ n = W / B ^ (n - 1) / B := by rw [Nat.div_div_eq_div_mul, ← Nat.pow_succ]; congr 2; omega
  rw [h3, Nat.mul_comm, Nat.add_comm]
  exact Nat.mod_add_div _ _
/-- what holds of the guess while it is lowered -/
def Guess (B V W n d r : Nat) : Prop := d * (V / B ^ (n - 1)) + r = W / B ^ (n - 1) ∧ r < B ∧ W / V ≤ d
/-- what holds of it at the end -/
def Guessed (B V W d : Nat) : Prop := d < B ∧ W / V ≤ d ∧ d * V ≤ W + V
section
variable {B V W n d r : Nat}
theorem Guess.start (hB : 0 < B) (hn : 2 ≤ n) (h1 : 0 < V / B ^ (n - 1)) (hv1 : V / B ^ (n - 1) ≤ B) (hV : 0 < V) : Guess B V W n (W / B ^ (n - 1) / (V / B ^ (n - 1))) (W / B ^ (n - 1) % (V / B ^ (n - 1))) := by
  refine ⟨?_, ?_, ?_⟩
  · rw [Nat.mul_comm, Nat.add_comm]; exact Nat.mod_add_div _ _
  · have := Nat.mod_lt (W / B ^ (n - 1)) h1
    omega
  · refine guess_hi (two_top hB hn) (two_top hB hn) (Nat.mod_lt _ (pow_pos' hB _)) (Nat.mod_lt _ hB) h1 ?_
    exact Nat.div_mul_le_self W V
theorem Guess.dec (hB : 0 < B) (hn : 2 ≤ n) (h : Guess B V W n d r) (hV : 0 < V) (hWV : W < V * B) (hc : B ≤ d ∨ r * B + W / B ^ (n - 2) % B < d * (V / B ^ (n - 2) % B)) : 1 ≤ d ∧ W / V ≤ d - 1 := by
  obtain ⟨h1, h2, h3⟩ := h
  have hq : W / V < B := by rw [Nat.div_lt_iff_lt_mul hV, Nat.mul_comm]; exact hWV
  rcases hc with hc | hc
  · generalize W / V = q at *
    omega
  · have := guess_lo (two_top (W := V) hB hn) (two_top (W := W) hB hn) (Nat.mod_lt _ (pow_pos' hB _)) h1 hc (Nat.div_mul_le_self W V)
    generalize W / V = q at *
    omega
theorem Guess.down (h : Guess B V W n d r) (hd : 1 ≤ d ∧ W / V ≤ d - 1) (hr : r + V / B ^ (n - 1) < B) : Guess B V W n (d - 1) (r + V / B ^ (n - 1)) := by
  obtain ⟨h1, h2, h3⟩ := h
  refine ⟨?_, hr, hd.2⟩
  rw [← h1]
  obtain ⟨e, rfl⟩ : ∃ e, d = e + 1 := ⟨d - 1, by omega⟩
  rw [Nat.add_sub_cancel]
  grind
theorem Guess.done (hB : 0 < B) (hn : 2 ≤ n) (h : Guess B V W n d r) (h1 : 0 < V / B ^ (n - 1)) (hd : d < B) (hc : d * (V / B ^ (n - 2) % B) ≤ r * B + W / B ^ (n - 2) % B) : Guessed B V W d := by
  obtain ⟨e1, e2, e3⟩ := h
  refine ⟨hd, e3, ?_⟩
  refine guess_near (two_top hB hn) (two_top hB hn) (Nat.mod_lt _ (pow_pos' hB _)) h1 hd ?_
  rw [← e1]
  generalize V / B ^ (n - 1) = v1 at *
  generalize V / B ^ (n - 2) % B = v2 at *
  generalize W / B ^ (n - 2) % B = u2 at *
  have : d * (v1 * B + v2) = d * v1 * B + d * v2 := by grind
  have e2 : (d * v1 + r) * B = d * v1 * B + r * B := by grind
  omega
theorem Guess.left (hB : 0 < B) (hn : 2 ≤ n) (h : Guess B V W n d r) (h1 : 0 < V / B ^ (n - 1)) (hWV : W < V * B) (hd : 1 ≤ d ∧ W / V ≤ d - 1) (hr : B ≤ r + V / B ^ (n - 1)) : Guessed B V W (d - 1) := by
  obtain ⟨e1, e2, e3⟩ := h
  obtain ⟨e, rfl⟩ : ∃ e, d = e + 1 := ⟨d - 1, by omega⟩
  rw [Nat.add_sub_cancel] at hd ⊢
  have hh : e * (V / B ^ (n - 1)) + (r + V / B ^ (n - 1)) = W / B ^ (n - 1) := by rw [← e1]; grind
  have ht := guess_top (two_top (W := V) hB hn) (Nat.mod_lt _ (pow_pos' hB _)) (Nat.mod_lt _ hB) (two_top (W := W) hB hn) hWV
  have hs := guess_small hh hr ht
  refine ⟨hs, hd.2, ?_⟩
  exact guess_near (two_top hB hn) (two_top hB hn) (Nat.mod_lt _ (pow_pos' hB _)) h1 hs (guess_rest (V := V) (Nat.mod_lt _ hB) hh hr hs)
/-- the guess was right -/
theorem Guessed.right (h : Guessed B V W d) {N M : Nat} (hV : 0 < V) (hN : N + d * V = W + 0 * M) : d = W / V ∧ N = W % V := by
  obtain ⟨h1, h2, h3⟩ := h
  have h4 : d ≤ W / V := by
    rw [Nat.le_div_iff_mul_le hV]
    rw [Nat.zero_mul] at hN
    omega
  have h5 : d = W / V := by omega
  have h6 := Nat.mod_add_div W V
  rw [Nat.mul_comm V, ← h5] at h6
  exact ⟨h5, by omega⟩
/-- the guess was too great -/
theorem Guessed.wrong (h : Guessed B V W d) {N M : Nat} (hV : 0 < V) (hVM : V ≤ M) (hNM : N < M) (hN : N + d * V = W + 1 * M) : d = W / V + 1 ∧ (N + V) % M = W % V := by
  obtain ⟨h1, h2, h3⟩ := h
  have h4 : W / V < d := by
    refine Nat.lt_of_not_le fun hle => ?_
    have h7 : d * V ≤ W := by rw [← Nat.le_div_iff_mul_le hV]; exact hle
    omega
  have h40 : 0 < d := Nat.lt_of_le_of_lt (Nat.zero_le _) h4
  obtain ⟨e, rfl⟩ : ∃ e, d = e + 1 := ⟨d - 1, by omega⟩
  have h5 : e ≤ W / V := by
    rw [Nat.le_div_iff_mul_le hV]
    rw [Nat.add_mul] at h3
    omega
  have h6 : e = W / V := by omega
  refine ⟨by omega, ?_⟩
  have h7 := Nat.mod_add_div W V
  rw [Nat.mul_comm V, ← h6] at h7
  have h8 := Nat.mod_lt W hV
  rw [Nat.add_mul] at hN
  have h9 : N + V = W % V + M := by omega
  rw [h9, Nat.add_mod_right, Nat.mod_eq_of_lt (by omega)]
end
/-- one digit of the quotient -/
theorem long_step {B U V Q U0 k : Nat} (hB : 0 < B) (hV : 0 < V) (h : U + V * Q = U0) (hU : U < V * B ^ (k + 1)) (hQ : Q % B ^ (k + 1) = 0) :
    let W := U / B ^ k
    let U' := U % B ^ k + B ^ k * (W % V)
    let Q' := Q + B ^ k * (W / V)
    W < V * B ∧ W / V < B ∧ U' + V * Q' = U0 ∧ U' < V * B ^ k ∧ Q' % B ^ k = 0 ∧ Q / B ^ k % B = 0 := by
  intro W U' Q'
  have hp := pow_pos' hB k
  have h1 : W < V * B := by
    show U / B ^ k < V * B
    rw [Nat.div_lt_iff_lt_mul hp, Nat.mul_assoc, Nat.mul_comm B, ← Nat.pow_succ]
    exact hU
  have hQk : Q % B ^ k + B ^ k * (Q / B ^ k % B) = 0 := by rw [← mod_succ]; exact hQ
  have hQ0 : Q % B ^ k = 0 := Nat.eq_zero_of_add_eq_zero_right hQk
  have hQ1 : Q / B ^ k % B = 0 := by
    have : B ^ k * (Q / B ^ k % B) = 0 := Nat.eq_zero_of_add_eq_zero_left hQk
    rcases Nat.mul_eq_zero.mp this with h2 | h2
    · omega
    · exact h2
  refine ⟨h1, by rw [Nat.div_lt_iff_lt_mul hV, Nat.mul_comm]; exact h1, ?_, ?_, ?_, hQ1⟩
  · have h2 := Nat.mod_add_div U (B ^ k)
    have h3 := Nat.mod_add_div W V
    have e : U % B ^ k + B ^ k * W = U := h2
    rw [← h]
    have : U = U % B ^ k + B ^ k * (W % V + V * (W / V)) := by rw [h3]; exact h2.symm
    show U % B ^ k + B ^ k * (W % V) + V * (Q + B ^ k * (W / V)) = U + V * Q
    rw [Nat.mul_add] at this ⊢
    have e3 : V * (B ^ k * (W / V)) = B ^ k * (V * (W / V)) := by rw [Nat.mul_left_comm]
    omega
  · have h2 : W % V < V := Nat.mod_lt _ hV
    have h3 : B ^ k * (W % V + 1) ≤ B ^ k * V := Nat.mul_le_mul_left _ h2
    have h4 := Nat.mod_lt U hp
    rw [Nat.mul_comm V]
    rw [Nat.mul_add] at h3
    show U % B ^ k + B ^ k * (W % V) < B ^ k * V
    omega
  · show (Q + B ^ k * (W / V)) % B ^ k = 0
    rw [Nat.add_mul_mod_self_left]; exact hQ0
end Go.Proofs.YthmgcbpmfipfiaaDoor
