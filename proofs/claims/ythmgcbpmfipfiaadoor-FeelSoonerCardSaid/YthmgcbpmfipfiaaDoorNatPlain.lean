/- Natural numbers as bytes and as digits: plain. Conditions: those typed. -/
namespace Go.Proofs.YthmgcbpmfipfiaaDoor
set_option linter.unusedVariables false
/-- the number in bytes, the most significant first -/
def bval (l : List UInt8) : Nat := l.foldl (fun n c => 256 * n + c.toNat) 0
theorem bval_fold (l : List UInt8) (n : Nat) : l.foldl (fun n c => 256 * n + c.toNat) n = n * 256 ^ l.length + bval l := by
  induction l generalizing n with
  | nil => simp [bval]
  | cons c l ih =>
    have e : bval (c :: l) = l.foldl (fun n c => 256 * n + c.toNat) (256 * 0 + c.toNat) := rfl
    rw [e, List.foldl_cons, ih, ih, List.length_cons, Nat.pow_succ]
    grind
theorem bval_nil : bval [] = 0 := rfl
theorem bval_append (l m : List UInt8) : bval (l ++ m) = bval l * 256 ^ m.length + bval m := by
  unfold bval
  rw [List.foldl_append, bval_fold]
  rfl
theorem bval_snoc (l : List UInt8) (c : UInt8) : bval (l ++ [c]) = 256 * bval l + c.toNat := by
  rw [bval_append]
  simp [bval]
  omega
theorem bval_cons (c : UInt8) (l : List UInt8) : bval (c :: l) = c.toNat * 256 ^ l.length + bval l := by
  have := bval_append [c] l
  simpa [bval] using this
theorem bval_lt (l : List UInt8) : bval l < 256 ^ l.length := by
  induction l with
  | nil => simp [bval]
  | cons c l ih =>
    rw [bval_cons, List.length_cons, Nat.pow_succ]
    have := c.toNat_lt
    have h : c.toNat * 256 ^ l.length ≤ 255 * 256 ^ l.length := Nat.mul_le_mul_right _ (by omega)
    omega
theorem snoc_ind {α : Type} {P : List α → Prop} (h0 : P []) (h1 : ∀ l c, P l → P (l ++ [c])) (l : List α) : P l := by
  have h : ∀ m : List α, P m.reverse := by
    intro m
    induction m with
    | nil => exact h0
    | cons c m ih => rw [List.reverse_cons]; exact h1 _ _ ih
  have := h l.reverse
  rwa [List.reverse_reverse] at this
/-- without leading zeros -/
def trimL (l : List UInt8) : List UInt8 := l.dropWhile (· == 0)
theorem bval_trim (l : List UInt8) : bval (trimL l) = bval l := by
  induction l with
  | nil => rfl
  | cons c l ih =>
    unfold trimL at ih ⊢
    by_cases h : c = 0
    · subst h
      rw [List.dropWhile_cons]
      simp only [beq_self_eq_true, if_true]
      rw [ih, bval_cons]
      simp
    · rw [List.dropWhile_cons]
      simp [h]
def natL (n : Nat) : List UInt8 := if n = 0 then [] else natL (n / 256) ++ [UInt8.ofNat (n % 256)]
termination_by n
decreasing_by omega
theorem natL_zero : natL 0 = [] := by rw [natL]; rfl
theorem natL_pos {n : Nat} (h : n ≠ 0) : natL n = natL (n / 256) ++ [UInt8.ofNat (n % 256)] := by rw [natL, if_neg h]
theorem bval_natL (n : Nat) : bval (natL n) = n := by
  induction n using Nat.strongRecOn with
  | _ n ih =>
    by_cases h : n = 0
    · subst h; rw [natL_zero]; rfl
    · rw [natL_pos h, bval_snoc, ih _ (by omega), UInt8.toNat_ofNat']
      omega
theorem natL_bval {l : List UInt8} (h : ∀ c t, l = c :: t → c ≠ 0) : natL (bval l) = l := by
  revert h
  induction l using snoc_ind with
  | h0 => intro _; exact natL_zero
  | h1 l c ih =>
    intro h
    have hl : ∀ x t, l = x :: t → x ≠ 0 := fun x t e => h x (t ++ [c]) (by rw [e]; rfl)
    have hc := c.toNat_lt
    have hne : bval (l ++ [c]) ≠ 0 := by
      rw [bval_snoc]
      cases l with
      | nil =>
        have := h c [] rfl
        have h2 : c.toNat ≠ 0 := fun e => this (UInt8.toNat_inj.mp (by simpa using e))
        omega
      | cons x t =>
        have h1 := hl x t rfl
        have h2 : x.toNat ≠ 0 := fun e => h1 (UInt8.toNat_inj.mp (by simpa using e))
        rw [bval_cons]
        have h3 : 0 < x.toNat * 256 ^ t.length := Nat.mul_pos (by omega) (Nat.pow_pos (by omega))
        omega
    rw [natL_pos hne, bval_snoc]
    have e1 : (256 * bval l + c.toNat) / 256 = bval l := by omega
    have e2 : (256 * bval l + c.toNat) % 256 = c.toNat := by omega
    rw [e1, e2, ih hl, UInt8.ofNat_toNat]
theorem trimL_head (l : List UInt8) : ∀ c t, trimL l = c :: t → c ≠ 0 := by
  induction l with
  | nil => intro c t h; cases h
  | cons x l ih =>
    intro c t h
    unfold trimL at h ih
    rw [List.dropWhile_cons] at h
    by_cases hx : x = 0
    · subst hx
      exact ih c t (by simpa using h)
    · simp [hx] at h
      exact h.1 ▸ hx
theorem trimL_eq (l : List UInt8) : trimL l = natL (bval l) := by
  rw [← bval_trim, natL_bval (trimL_head l)]
theorem natL_head (n : Nat) : ∀ c t, natL n = c :: t → c ≠ 0 := by
  rw [← bval_natL n, ← trimL_eq]
  exact trimL_head _
theorem natL_len_le (n k : Nat) : (natL n).length ≤ k ↔ n < 256 ^ k := by
  constructor
  · intro h
    have := bval_lt (natL n)
    rw [bval_natL] at this
    exact Nat.lt_of_lt_of_le this (Nat.pow_le_pow_right (by omega) h)
  · intro h
    induction k generalizing n with
    | zero =>
      have : n = 0 := by simpa using h
      subst this; rw [natL_zero]; exact Nat.le_refl _
    | succ k ih =>
      by_cases h0 : n = 0
      · subst h0; rw [natL_zero]; exact Nat.zero_le _
      · rw [natL_pos h0, List.length_append]
        have := ih (n / 256) (by rw [Nat.pow_succ] at h; omega)
        simp; exact this
theorem natL_len_lt (n k : Nat) : k < (natL n).length ↔ 256 ^ k ≤ n := by
  have := natL_len_le n k
  omega
theorem natL_inj {a b : Nat} (h : natL a = natL b) : a = b := by rw [← bval_natL a, h, bval_natL]
theorem natL_nil {n : Nat} : natL n = [] ↔ n = 0 := ⟨fun h => by rw [← bval_natL n, h]; rfl, fun h => by rw [h, natL_zero]⟩
theorem natL_len_mono {a b : Nat} (h : a ≤ b) : (natL a).length ≤ (natL b).length := by
  rw [natL_len_le]
  exact Nat.lt_of_le_of_lt h ((natL_len_le b _).mp (Nat.le_refl _))
theorem natL_len_add (a b : Nat) : (natL (a + b)).length ≤ max (natL a).length (natL b).length + 1 := by
  rw [natL_len_le]
  have h1 := (natL_len_le a _).mp (Nat.le_max_left (natL a).length (natL b).length)
  have h2 := (natL_len_le b _).mp (Nat.le_max_right (natL a).length (natL b).length)
  rw [Nat.pow_succ]
  omega
theorem natL_len_mul (a b : Nat) : (natL (a * b)).length ≤ (natL a).length + (natL b).length := by
  rw [natL_len_le, Nat.pow_add]
  have h1 := (natL_len_le a _).mp (Nat.le_refl _)
  have h2 := (natL_len_le b _).mp (Nat.le_refl _)
  exact Nat.lt_of_le_of_lt (Nat.mul_le_mul_left a (Nat.le_of_lt h2)) (Nat.mul_lt_mul_of_pos_right h1 (Nat.pow_pos (by omega)))
/-- a number as a string -/
def natS (n : Nat) : ByteArray := ⟨(natL n).toArray⟩
theorem natS_list (n : Nat) : (natS n).data.toList = natL n := by simp [natS]
theorem natS_size (n : Nat) : (natS n).size = (natL n).length := by simp [natS, ByteArray.size]
/-- the number of a string -/
def sval (s : ByteArray) : Nat := bval s.data.toList
theorem sval_natS (n : Nat) : sval (natS n) = n := by unfold sval; rw [natS_list, bval_natL]
theorem natS_inj {a b : Nat} (h : natS a = natS b) : a = b := by rw [← sval_natS a, h, sval_natS]
/-- digits, the least significant first -/
def wval (B : Nat) : List Nat → Nat
  | [] => 0
  | x :: xs => x + B * wval B xs
def digs (B : Nat) : Nat → Nat → List Nat
  | 0, _ => []
  | m + 1, n => n % B :: digs B m (n / B)
theorem digs_len (B m n : Nat) : (digs B m n).length = m := by
  induction m generalizing n with
  | zero => rfl
  | succ m ih => simp [digs, ih]
theorem wval_digs (B m n : Nat) : wval B (digs B m n) = n % B ^ m := by
  induction m generalizing n with
  | zero => simp [digs, wval, Nat.mod_one]
  | succ m ih =>
    simp only [digs, wval, ih]
    rw [Nat.pow_succ, Nat.mul_comm (B ^ m) B, Nat.mod_mul]
theorem digs_lt {B : Nat} (hB : 0 < B) (m n : Nat) : ∀ x ∈ digs B m n, x < B := by
  induction m generalizing n with
  | zero => intro x h; cases h
  | succ m ih =>
    intro x h
    rcases List.mem_cons.mp h with rfl | h
    · exact Nat.mod_lt _ hB
    · exact ih _ x h
theorem digs_get (B m n j : Nat) (h : j < m) : (digs B m n)[j]? = some (n / B ^ j % B) := by
  induction m generalizing n j with
  | zero => omega
  | succ m ih =>
    cases j with
    | zero => simp [digs]
    | succ j =>
      simp only [digs, List.getElem?_cons_succ]
      rw [ih _ _ (by omega), Nat.div_div_eq_div_mul, Nat.pow_succ, Nat.mul_comm B]
theorem wval_append (B : Nat) (l m : List Nat) : wval B (l ++ m) = wval B l + B ^ l.length * wval B m := by
  induction l with
  | nil => simp [wval]
  | cons x l ih => simp only [List.cons_append, wval, ih, List.length_cons, Nat.pow_succ]; grind
theorem wval_lt {B : Nat} {l : List Nat} (h : ∀ x ∈ l, x < B) : wval B l < B ^ l.length := by
  induction l with
  | nil => simp [wval]
  | cons x l ih =>
    have h1 := ih fun y hy => h y (List.mem_cons_of_mem _ hy)
    have h2 := h x (List.mem_cons_self ..)
    simp only [wval, List.length_cons, Nat.pow_succ]
    have : B * (wval B l + 1) ≤ B * B ^ l.length := Nat.mul_le_mul_left B h1
    grind
theorem digs_wval {B : Nat} {l : List Nat} (h : ∀ x ∈ l, x < B) : digs B l.length (wval B l) = l := by
  induction l with
  | nil => rfl
  | cons x l ih =>
    have h1 := ih fun y hy => h y (List.mem_cons_of_mem _ hy)
    have h2 := h x (List.mem_cons_self ..)
    simp only [wval, List.length_cons, digs]
    rw [Nat.add_mul_mod_self_left, Nat.mod_eq_of_lt h2, Nat.add_mul_div_left _ _ (by omega), Nat.div_eq_of_lt h2, Nat.zero_add, h1]
theorem digs_take (B m n k : Nat) (h : k ≤ m) : (digs B m n).take k = digs B k n := by
  induction k generalizing m n with
  | zero => simp [digs]
  | succ k ih =>
    cases m with
    | zero => omega
    | succ m => simp only [digs, List.take_succ_cons]; rw [ih _ _ (by omega)]
theorem digs_drop (B m n k : Nat) (h : k ≤ m) : (digs B m n).drop k = digs B (m - k) (n / B ^ k) := by
  induction k generalizing m n with
  | zero => simp
  | succ k ih =>
    cases m with
    | zero => omega
    | succ m =>
      simp only [digs, List.drop_succ_cons]
      rw [ih _ _ (by omega), Nat.div_div_eq_div_mul, Nat.pow_succ, Nat.mul_comm B, Nat.add_sub_add_right]
theorem digs_mod (B m n : Nat) : digs B m (n % B ^ m) = digs B m n := by
  induction m generalizing n with
  | zero => rfl
  | succ m ih =>
    simp only [digs]
    rw [Nat.pow_succ, Nat.mul_comm (B ^ m) B, Nat.mod_mul_right_mod, Nat.mod_mul_right_div_self, ih]
theorem digs_snoc (B m n : Nat) : digs B (m + 1) n = digs B m n ++ [n / B ^ m % B] := by
  induction m generalizing n with
  | zero => simp [digs]
  | succ m ih =>
    rw [digs, ih, digs, List.cons_append, Nat.div_div_eq_div_mul, Nat.pow_succ, Nat.mul_comm B]
theorem digs_zero (B m : Nat) : digs B m 0 = List.replicate m 0 := by
  induction m with
  | zero => rfl
  | succ m ih => simp [digs, ih, List.replicate_succ]
theorem digs_append (B m k n : Nat) : digs B (m + k) n = digs B m n ++ digs B k (n / B ^ m) := by
  have h := List.take_append_drop m (digs B (m + k) n)
  rw [digs_take _ _ _ _ (by omega), digs_drop _ _ _ _ (by omega), Nat.add_sub_cancel_left] at h
  exact h.symm
/-- a digit is set that was n / B ^ j % B -/
theorem digs_set (B m n n' j v : Nat) (hj : j < m) (h1 : n' % B ^ j = n % B ^ j) (h2 : n' / B ^ j % B = v) (h3 : n' / B ^ (j + 1) = n / B ^ (j + 1)) : (digs B m n).set j v = digs B m n' := by
  obtain ⟨k, rfl⟩ : ∃ k, m = j + (1 + k) := ⟨m - j - 1, by omega⟩
  rw [digs_append B j (1 + k) n, digs_append B j (1 + k) n', List.set_append_right _ _ (by rw [digs_len]; exact Nat.le_refl _), digs_len, Nat.sub_self]
  rw [← digs_mod B j n, ← h1, digs_mod]
  congr 1
  rw [Nat.add_comm 1 k]
  simp only [digs, List.set_cons_zero]
  rw [h2, Nat.div_div_eq_div_mul, Nat.div_div_eq_div_mul, ← Nat.pow_succ, h3]
/-- how many digits of 2^32 a number has -/
def wlen (n : Nat) : Nat := ((natL n).length + 3) / 4
theorem pow_word (k : Nat) : (4294967296 : Nat) ^ k = 256 ^ (4 * k) := by rw [Nat.pow_mul]
theorem wlen_le (n k : Nat) : wlen n ≤ k ↔ n < 4294967296 ^ k := by
  rw [pow_word, ← natL_len_le]
  unfold wlen
  omega
theorem wlen_lt (n : Nat) : n < 4294967296 ^ wlen n := (wlen_le n _).mp (Nat.le_refl _)
/-- how many digits of 2^64 a number has -/
def llen (n : Nat) : Nat := ((natL n).length + 7) / 8
theorem pow_limb (k : Nat) : (18446744073709551616 : Nat) ^ k = 256 ^ (8 * k) := by rw [Nat.pow_mul]
theorem llen_le (n k : Nat) : llen n ≤ k ↔ n < 18446744073709551616 ^ k := by
  rw [pow_limb, ← natL_len_le]
  unfold llen
  omega
theorem llen_lt (n : Nat) : n < 18446744073709551616 ^ llen n := (llen_le n _).mp (Nat.le_refl _)
end Go.Proofs.YthmgcbpmfipfiaaDoor
