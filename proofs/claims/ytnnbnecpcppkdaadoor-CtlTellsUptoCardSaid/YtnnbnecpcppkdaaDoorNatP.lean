/- Natural numbers as bytes and as digits: plain. Rational numbers as three parts (a sign, a numerator, a denominator), plain. Digits: sums, differences, products, quotients, digit by digit. Products, quotients, shifts, comparisons, digit by digit. Long division: the guess of a digit, what is taken away and put back. The greatest common divisor by halves and differences: plain. Long division: one digit, and all of them. Conditions: those typed. -/

namespace Go.Proofs.YtnnbnecpcppkdaaDoor
set_option linter.unusedVariables false
/-- the number in bytes, the most significant first -/
def bval (l : List UInt8) : Nat := l.foldl (fun n c => 256 * n + c.toNat) 0
theorem bval_fold (l : List UInt8) (n : Nat) : l.foldl (fun n c => 256 * n + c.toNat) n = n * 256 ^ l.length + bval l := by
  induction l generalizing n with
  | nil => simp [bval]
  | cons c l ih =>
    have e : bval (c :: l) = l.foldl (fun n c => 256 * n + c.toNat) (256 * 0 + c.toNat) := rfl
    rw [e, List.foldl_cons, ih, ih, List.length_cons, Nat.pow_succ]
    grind
theorem bval_nil : bval [] = 0 := rfl
theorem bval_append (l m : List UInt8) : bval (l ++ m) = bval l * 256 ^ m.length + bval m := by
  unfold bval
  rw [List.foldl_append, bval_fold]
  rfl
theorem bval_snoc (l : List UInt8) (c : UInt8) : bval (l ++ [c]) = 256 * bval l + c.toNat := by
  rw [bval_append]
  simp [bval]
  omega
theorem bval_cons (c : UInt8) (l : List UInt8) : bval (c :: l) = c.toNat * 256 ^ l.length + bval l := by
  have := bval_append [c] l
  simpa [bval] using this
theorem bval_lt (l : List UInt8) : bval l < 256 ^ l.length := by
  induction l with
  | nil => simp [bval]
  | cons c l ih =>
    rw [bval_cons, List.length_cons, Nat.pow_succ]
    have := c.toNat_lt
    have h : c.toNat * 256 ^ l.length ≤ 255 * 256 ^ l.length := Nat.mul_le_mul_right _ (by omega)
    omega
theorem snoc_ind {α : Type} {P : List α → Prop} (h0 : P []) (h1 : ∀ l c, P l → P (l ++ [c])) (l : List α) : P l := by
  have h : ∀ m : List α, P m.reverse := by
    intro m
    induction m with
    | nil => exact h0
    | cons c m ih => rw [List.reverse_cons]; exact h1 _ _ ih
  have := h l.reverse
  rwa [List.reverse_reverse] at this
/-- without leading zeros -/
def trimL (l : List UInt8) : List UInt8 := l.dropWhile (· == 0)
theorem bval_trim (l : List UInt8) : bval (trimL l) = bval l := by
  induction l with
  | nil => rfl
  | cons c l ih =>
    unfold trimL at ih ⊢
    by_cases h : c = 0
    · subst h
      rw [List.dropWhile_cons]
      simp only [beq_self_eq_true, if_true]
      rw [ih, bval_cons]
      simp
    · rw [List.dropWhile_cons]
      simp [h]
def natL (n : Nat) : List UInt8 := if n = 0 then [] else natL (n / 256) ++ [UInt8.ofNat (n % 256)]
termination_by n
decreasing_by omega
theorem natL_zero : natL 0 = [] := by rw [natL]; rfl
theorem natL_pos {n : Nat} (h : n ≠ 0) : natL n = natL (n / 256) ++ [UInt8.ofNat (n % 256)] := by rw [natL, if_neg h]
theorem bval_natL (n : Nat) : bval (natL n) = n := by
  induction n using Nat.strongRecOn with
  | _ n ih =>
    by_cases h : n = 0
    · subst h; rw [natL_zero]; rfl
    · rw [natL_pos h, bval_snoc, ih _ (by omega), UInt8.toNat_ofNat']
      omega
theorem natL_bval {l : List UInt8} (h : ∀ c t, l = c :: t → c ≠ 0) : natL (bval l) = l := by
  revert h
  induction l using snoc_ind with
  | h0 => intro _; exact natL_zero
  | h1 l c ih =>
    intro h
    have hl : ∀ x t, l = x :: t → x ≠ 0 := fun x t e => h x (t ++ [c]) (by rw [e]; rfl)
    have hc := c.toNat_lt
    have hne : bval (l ++ [c]) ≠ 0 := by
      rw [bval_snoc]
      cases l with
      | nil =>
        have := h c [] rfl
        have h2 : c.toNat ≠ 0 := fun e => this (UInt8.toNat_inj.mp (by simpa using e))
        omega
      | cons x t =>
        have h1 := hl x t rfl
        have h2 : x.toNat ≠ 0 := fun e => h1 (UInt8.toNat_inj.mp (by simpa using e))
        rw [bval_cons]
        have h3 : 0 < x.toNat * 256 ^ t.length := Nat.mul_pos (by omega) (Nat.pow_pos (by omega))
        omega
    rw [natL_pos hne, bval_snoc]
    have e1 : (256 * bval l + c.toNat) / 256 = bval l := by omega
    have e2 : (256 * bval l + c.toNat) % 256 = c.toNat := by omega
    rw [e1, e2, ih hl, UInt8.ofNat_toNat]
theorem trimL_head (l : List UInt8) : ∀ c t, trimL l = c :: t → c ≠ 0 := by
  induction l with
  | nil => intro c t h; cases h
  | cons x l ih =>
    intro c t h
    unfold trimL at h ih
    rw [List.dropWhile_cons] at h
    by_cases hx : x = 0
    · subst hx
      exact ih c t (by simpa using h)
    · simp [hx] at h
      exact h.1 ▸ hx
theorem trimL_eq (l : List UInt8) : trimL l = natL (bval l) := by
  rw [← bval_trim, natL_bval (trimL_head l)]
theorem natL_head (n : Nat) : ∀ c t, natL n = c :: t → c ≠ 0 := by
  rw [← bval_natL n, ← trimL_eq]
  exact trimL_head _
theorem natL_len_le (n k : Nat) : (natL n).length ≤ k ↔ n < 256 ^ k := by
  constructor
  · intro h
    have := bval_lt (natL n)
    rw [bval_natL] at this
    exact Nat.lt_of_lt_of_le this (Nat.pow_le_pow_right (by omega) h)
  · intro h
    induction k generalizing n with
    | zero =>
      have : n = 0 := by simpa using h
      subst this; rw [natL_zero]; exact Nat.le_refl _
    | succ k ih =>
      by_cases h0 : n = 0
      · subst h0; rw [natL_zero]; exact Nat.zero_le _
      · rw [natL_pos h0, List.length_append]
        have := ih (n / 256) (by rw [Nat.pow_succ] at h; omega)
        simp; exact this
theorem natL_len_lt (n k : Nat) : k < (natL n).length ↔ 256 ^ k ≤ n := by
  have := natL_len_le n k
  omega
theorem natL_inj {a b : Nat} (h : natL a = natL b) : a = b := by rw [← bval_natL a, h, bval_natL]
theorem natL_nil {n : Nat} : natL n = [] ↔ n = 0 := ⟨fun h => by rw [← bval_natL n, h]; rfl, fun h => by rw [h, natL_zero]⟩
theorem natL_len_mono {a b : Nat} (h : a ≤ b) : (natL a).length ≤ (natL b).length := by
  rw [natL_len_le]
  exact Nat.lt_of_le_of_lt h ((natL_len_le b _).mp (Nat.le_refl _))
theorem natL_len_add (a b : Nat) : (natL (a + b)).length ≤ max (natL a).length (natL b).length + 1 := by
  rw [natL_len_le]
  have h1 := (natL_len_le a _).mp (Nat.le_max_left (natL a).length (natL b).length)
  have h2 := (natL_len_le b _).mp (Nat.le_max_right (natL a).length (natL b).length)
  rw [Nat.pow_succ]
  omega
theorem natL_len_mul (a b : Nat) : (natL (a * b)).length ≤ (natL a).length + (natL b).length := by
  rw [natL_len_le, Nat.pow_add]
  have h1 := (natL_len_le a _).mp (Nat.le_refl _)
  have h2 := (natL_len_le b _).mp (Nat.le_refl _)
  exact Nat.lt_of_le_of_lt (Nat.mul_le_mul_left a (Nat.le_of_lt h2)) (Nat.mul_lt_mul_of_pos_right h1 (Nat.pow_pos (by omega)))
/-- a number as a string -/
def natS (n : Nat) : ByteArray := ⟨(natL n).toArray⟩
theorem natS_list (n : Nat) : (natS n).data.toList = natL n := by simp [natS]
theorem natS_size (n : Nat) : (natS n).size = (natL n).length := by simp [natS, ByteArray.size]
/-- the number of a string -/
def sval (s : ByteArray) : Nat := bval s.data.toList
theorem sval_natS (n : Nat) : sval (natS n) = n := by unfold sval; rw [natS_list, bval_natL]
theorem natS_inj {a b : Nat} (h : natS a = natS b) : a = b := by rw [← sval_natS a, h, sval_natS]
/-- digits, the least significant first -/
def wval (B : Nat) : List Nat → Nat
  | [] => 0
  | x :: xs => x + B * wval B xs
def digs (B : Nat) : Nat → Nat → List Nat
  | 0, _ => []
  | m + 1, n => n % B :: digs B m (n / B)
theorem digs_len (B m n : Nat) : (digs B m n).length = m := by
  induction m generalizing n with
  | zero => rfl
  | succ m ih => simp [digs, ih]
theorem wval_digs (B m n : Nat) : wval B (digs B m n) = n % B ^ m := by
  induction m generalizing n with
  | zero => simp [digs, wval, Nat.mod_one]
  | succ m ih =>
    simp only [digs, wval, ih]
    rw [Nat.pow_succ, Nat.mul_comm (B ^ m) B, Nat.mod_mul]
theorem digs_lt {B : Nat} (hB : 0 < B) (m n : Nat) : ∀ x ∈ digs B m n, x < B := by
  induction m generalizing n with
  | zero => intro x h; cases h
  | succ m ih =>
    intro x h
    rcases List.mem_cons.mp h with rfl | h
    · exact Nat.mod_lt _ hB
    · exact ih _ x h
theorem digs_get (B m n j : Nat) (h : j < m) : (digs B m n)[j]? = some (n / B ^ j % B) := by
  induction m generalizing n j with
  | zero => omega
  | succ m ih =>
    cases j with
    | zero => simp [digs]
    | succ j =>
      simp only [digs, List.getElem?_cons_succ]
      rw [ih _ _ (by omega), Nat.div_div_eq_div_mul, Nat.pow_succ, Nat.mul_comm B]
theorem wval_append (B : Nat) (l m : List Nat) : wval B (l ++ m) = wval B l + B ^ l.length * wval B m := by
  induction l with
  | nil => simp [wval]
  | cons x l ih => simp only [List.cons_append, wval, ih, List.length_cons, Nat.pow_succ]; grind
theorem wval_lt {B : Nat} {l : List Nat} (h : ∀ x ∈ l, x < B) : wval B l < B ^ l.length := by
  induction l with
  | nil => simp [wval]
  | cons x l ih =>
    have h1 := ih fun y hy => h y (List.mem_cons_of_mem _ hy)
    have h2 := h x (List.mem_cons_self ..)
    simp only [wval, List.length_cons, Nat.pow_succ]
    have : B * (wval B l + 1) ≤ B * B ^ l.length := Nat.mul_le_mul_left B h1
    grind
theorem digs_wval {B : Nat} {l : List Nat} (h : ∀ x ∈ l, x < B) : digs B l.length (wval B l) = l := by
  induction l with
  | nil => rfl
  | cons x l ih =>
    have h1 := ih fun y hy => h y (List.mem_cons_of_mem _ hy)
    have h2 := h x (List.mem_cons_self ..)
    simp only [wval, List.length_cons, digs]
    rw [Nat.add_mul_mod_self_left, Nat.mod_eq_of_lt h2, Nat.add_mul_div_left _ _ (by omega), Nat.div_eq_of_lt h2, Nat.zero_add, h1]
theorem digs_take (B m n k : Nat) (h : k ≤ m) : (digs B m n).take k = digs B k n := by
  induction k generalizing m n with
  | zero => simp [digs]
  | succ k ih =>
    cases m with
    | zero => omega
    | succ m => simp only [digs, List.take_succ_cons]; rw [ih _ _ (by omega)]
theorem digs_drop (B m n k : Nat) (h : k ≤ m) : (digs B m n).drop k = digs B (m - k) (n / B ^ k) := by
  induction k generalizing m n with
  | zero => simp
  | succ k ih =>
    cases m with
    | zero => omega
    | succ m =>
      simp only [digs, List.drop_succ_cons]
      rw [ih _ _ (by omega), Nat.div_div_eq_div_mul, Nat.pow_succ, Nat.mul_comm B, Nat.add_sub_add_right]
theorem digs_mod (B m n : Nat) : digs B m (n % B ^ m) = digs B m n := by
  induction m generalizing n with
  | zero => rfl
  | succ m ih =>
    simp only [digs]
    rw [Nat.pow_succ, Nat.mul_comm (B ^ m) B, Nat.mod_mul_right_mod, Nat.mod_mul_right_div_self, ih]
theorem digs_snoc (B m n : Nat) : digs B (m + 1) n = digs B m n ++ [n / B ^ m % B] := by
  induction m generalizing n with
  | zero => simp [digs]
  | succ m ih =>
    rw [digs, ih, digs, List.cons_append, Nat.div_div_eq_div_mul, Nat.pow_succ, Nat.mul_comm B]
theorem digs_zero (B m : Nat) : digs B m 0 = List.replicate m 0 := by
  induction m with
  | zero => rfl
  | succ m ih => simp [digs, ih, List.replicate_succ]
theorem digs_append (B m k n : Nat) : digs B (m + k) n = digs B m n ++ digs B k (n / B ^ m) := by
  have h := List.take_append_drop m (digs B (m + k) n)
  rw [digs_take _ _ _ _ (by omega), digs_drop _ _ _ _ (by omega), Nat.add_sub_cancel_left] at h
  exact h.symm
/-- a digit is set that was n / B ^ j % B -/
theorem digs_set (B m n n' j v : Nat) (hj : j < m) (h1 : n' % B ^ j = n % B ^ j) (h2 : n' / B ^ j % B = v) (h3 : n' / B ^ (j + 1) = n / B ^ (j + 1)) : (digs B m n).set j v = digs B m n' := by
  obtain ⟨k, rfl⟩ : ∃ k, m = j + (1 + k) := ⟨m - j - 1, by omega⟩
  rw [digs_append B j (1 + k) n, digs_append B j (1 + k) n', List.set_append_right _ _ (by rw [digs_len]; exact Nat.le_refl _), digs_len, Nat.sub_self]
  rw [← digs_mod B j n, ← h1, digs_mod]
  congr 1
  rw [Nat.add_comm 1 k]
  simp only [digs, List.set_cons_zero]
  rw [h2, Nat.div_div_eq_div_mul, Nat.div_div_eq_div_mul, ← Nat.pow_succ, h3]
/-- how many digits of 2^32 a number has -/
def wlen (n : Nat) : Nat := ((natL n).length + 3) / 4
theorem pow_word (k : Nat) : (4294967296 : Nat) ^ k = 256 ^ (4 * k) := by rw [Nat.pow_mul]
theorem wlen_le (n k : Nat) : wlen n ≤ k ↔ n < 4294967296 ^ k := by
  rw [pow_word, ← natL_len_le]
  unfold wlen
  omega
theorem wlen_lt (n : Nat) : n < 4294967296 ^ wlen n := (wlen_le n _).mp (Nat.le_refl _)
/-- how many digits of 2^64 a number has -/
def llen (n : Nat) : Nat := ((natL n).length + 7) / 8
theorem pow_limb (k : Nat) : (18446744073709551616 : Nat) ^ k = 256 ^ (8 * k) := by rw [Nat.pow_mul]
theorem llen_le (n k : Nat) : llen n ≤ k ↔ n < 18446744073709551616 ^ k := by
  rw [pow_limb, ← natL_len_le]
  unfold llen
  omega
theorem llen_lt (n : Nat) : n < 18446744073709551616 ^ llen n := (llen_le n _).mp (Nat.le_refl _)
end Go.Proofs.YtnnbnecpcppkdaaDoor
namespace Go.Proofs.YtnnbnecpcppkdaaDoor
def sgn (n : Bool) (x : Nat) : Int := if n = true then -(x : Int) else (x : Int)
theorem sgn_false (x : Nat) : sgn false x = x := rfl
theorem sgn_true (x : Nat) : sgn true x = -(x : Int) := rfl
theorem sgn_zero (n : Bool) : sgn n 0 = 0 := by cases n <;> rfl
theorem sgn_abs (n : Bool) (x : Nat) : (sgn n x).natAbs = x := by cases n <;> simp [sgn]
theorem sgn_mul (n m : Bool) (x y : Nat) : sgn n x * sgn m y = sgn (n != m) (x * y) := by
  cases n <;> cases m <;> simp [sgn, Int.neg_mul, Int.mul_neg]
theorem sgn_mul_nat (n : Bool) (x y : Nat) : sgn n x * (y : Int) = sgn n (x * y) := by cases n <;> simp [sgn, Int.neg_mul]
def qn (q : Rat) : Bool := decide (q.num < 0)
def qs (q : Rat) : ByteArray := natS q.num.natAbs
def qt (q : Rat) : ByteArray := natS q.den
theorem qn_sgn (q : Rat) : sgn (qn q) q.num.natAbs = q.num := by
  unfold sgn qn
  by_cases h : q.num < 0
  · rw [if_pos (decide_eq_true h)]; omega
  · rw [if_neg (by simpa using h)]; omega
def GoodR (n : Bool) (s t : ByteArray) : Prop := natS (sval s) = s ∧ natS (sval t) = t ∧ sval t ≠ 0 ∧ (sval s = 0 → n = false) ∧ Nat.gcd (sval s) (sval t) = 1
instance (n : Bool) (s t : ByteArray) : Decidable (GoodR n s t) := by unfold GoodR; infer_instance
def fitQ (n : Bool) (s t : ByteArray) : Rat := if GoodR n s t then mkRat (sgn n (sval s)) (sval t) else 0
theorem fit_bad {n : Bool} {s t : ByteArray} (h : ¬ GoodR n s t) : fitQ n s t = 0 := if_neg h
theorem fit_good {n : Bool} {s t : ByteArray} (h : GoodR n s t) : fitQ n s t = mkRat (sgn n (sval s)) (sval t) := if_pos h
theorem mk_parts {n : Bool} {a b : Nat} (hb : b ≠ 0) (hz : a = 0 → n = false) : qn (mkRat (sgn n a) b) = n ∧ qs (mkRat (sgn n a) b) = natS (a / Nat.gcd a b) ∧ qt (mkRat (sgn n a) b) = natS (b / Nat.gcd a b) := by
  have hg : 0 < Nat.gcd a b := Nat.gcd_pos_of_pos_right a (Nat.pos_of_ne_zero hb)
  have hn : (mkRat (sgn n a) b).num = sgn n (a / Nat.gcd a b) := by
    rw [Rat.num_mkRat, if_neg hb, sgn_abs, Nat.gcd_comm]
    cases n
    · rfl
    · rw [sgn_true, sgn_true, Int.neg_ediv_of_dvd (Int.ofNat_dvd.mpr (Nat.gcd_dvd_left a b)), Int.natCast_ediv]
  have hd : (mkRat (sgn n a) b).den = b / Nat.gcd a b := by rw [Rat.den_mkRat, if_neg hb, sgn_abs, Nat.gcd_comm]
  refine ⟨?_, by unfold qs; rw [hn, sgn_abs], by unfold qt; rw [hd]⟩
  unfold qn
  rw [hn]
  cases n
  · rw [sgn_false]
    generalize a / Nat.gcd a b = k
    exact decide_eq_false (by omega)
  · have ha : a ≠ 0 := fun h => by cases hz h
    have h1 : 0 < a / Nat.gcd a b := Nat.div_pos (Nat.le_of_dvd (Nat.pos_of_ne_zero ha) (Nat.gcd_dvd_left a b)) hg
    rw [sgn_true]
    generalize a / Nat.gcd a b = k at h1
    exact decide_eq_true (by omega)
theorem good_parts {n : Bool} {s t : ByteArray} (h : GoodR n s t) : qn (fitQ n s t) = n ∧ qs (fitQ n s t) = s ∧ qt (fitQ n s t) = t := by
  rw [fit_good h]
  obtain ⟨h1, h2, h3, h4, h5⟩ := h
  have := mk_parts (n := n) (a := sval s) h3 h4
  rw [h5, Nat.div_one, Nat.div_one, h1, h2] at this
  exact this
theorem parts_good (q : Rat) : GoodR (qn q) (qs q) (qt q) := by
  unfold qs qt
  refine ⟨by rw [sval_natS], by rw [sval_natS], by rw [sval_natS]; exact q.den_nz, ?_, ?_⟩
  · rw [sval_natS]; intro h; unfold qn; exact decide_eq_false (by omega)
  · rw [sval_natS, sval_natS]; exact q.reduced
theorem fit_parts (q : Rat) : fitQ (qn q) (qs q) (qt q) = q := by
  rw [fit_good (parts_good q)]
  unfold qs qt
  rw [sval_natS, sval_natS, qn_sgn, Rat.mkRat_self]
theorem parts_zero : qn 0 = false ∧ qs 0 = natS 0 ∧ qt 0 = natS 1 := ⟨rfl, rfl, rfl⟩
theorem natS_inj' {a b : Nat} : natS a = natS b ↔ a = b := ⟨natS_inj, fun h => h ▸ rfl⟩
theorem natS_one : natS 1 = { data := #[1] } := by unfold natS; rw [natL_pos (by decide), natL_zero]; rfl
/-- the length of a number's longest part -/
def qz (q : Rat) : Nat := max (natL q.num.natAbs).length (natL q.den).length
theorem natL_len_one : (natL 1).length = 1 := by rw [natL_pos (by decide), natL_zero]; rfl
theorem qz_mk (a : Int) (b : Nat) : qz (mkRat a b) ≤ max (natL a.natAbs).length (max (natL b).length 1) := by
  unfold qz
  rw [Rat.num_mkRat, Rat.den_mkRat]
  by_cases h : b = 0
  · rw [if_pos h, if_pos h, h, natL_len_one]; simp [natL_zero]; omega
  · rw [if_neg h, if_neg h]
    have h1 : (a / ((Nat.gcd b a.natAbs : Nat) : Int)).natAbs ≤ a.natAbs := by
      have hd : ((Nat.gcd b a.natAbs : Nat) : Int) ∣ a := by
        have := Nat.gcd_dvd_right b a.natAbs
        exact Int.dvd_trans (Int.natCast_dvd_natCast.mpr this) (by rw [Int.natAbs_dvd]; exact Int.dvd_refl _)
      rw [Int.natAbs_ediv_of_dvd hd]
      exact Nat.div_le_self _ _
    have h2 := natL_len_mono h1
    have h3 := natL_len_mono (Nat.div_le_self b (Nat.gcd b a.natAbs))
    omega
theorem qz_pos (q : Rat) : 1 ≤ qz q := by
  unfold qz
  have h : (natL q.den).length ≠ 0 := fun h => q.den_nz (natL_nil.mp (List.length_eq_zero_iff.mp h))
  omega
theorem qz_zero : qz 0 = 1 := by unfold qz; show max (natL 0).length (natL 1).length = 1; rw [natL_zero, natL_len_one]; rfl
theorem qs_size (q : Rat) : (qs q).size ≤ qz q := by unfold qs; rw [natS_size]; exact Nat.le_max_left _ _
theorem qt_size (q : Rat) : (qt q).size ≤ qz q := by unfold qt; rw [natS_size]; exact Nat.le_max_right _ _
theorem qz_add (a b : Rat) : qz (a + b) ≤ qz a + qz b + 1 := by
  rw [Rat.add_def']
  refine Nat.le_trans (qz_mk _ _) ?_
  have h1 : (a.num * (b.den : Int) + b.num * (a.den : Int)).natAbs ≤ a.num.natAbs * b.den + b.num.natAbs * a.den := by
    refine Nat.le_trans (Int.natAbs_add_le _ _) ?_
    rw [Int.natAbs_mul, Int.natAbs_mul]
    exact Nat.le_refl _
  have h2 := natL_len_mono h1
  have h3 := natL_len_add (a.num.natAbs * b.den) (b.num.natAbs * a.den)
  have h4 := natL_len_mul a.num.natAbs b.den
  have h5 := natL_len_mul b.num.natAbs a.den
  have h6 := natL_len_mul a.den b.den
  unfold qz
  omega
theorem qz_mul (a b : Rat) : qz (a * b) ≤ qz a + qz b := by
  rw [Rat.mul_def']
  refine Nat.le_trans (qz_mk _ _) ?_
  have h4 := natL_len_mul a.num.natAbs b.num.natAbs
  have h6 := natL_len_mul a.den b.den
  rw [Int.natAbs_mul]
  have := qz_pos a
  unfold qz at *
  omega
theorem qz_neg (a : Rat) : qz (-a) = qz a := by unfold qz; rw [Rat.neg_num, Rat.neg_den, Int.natAbs_neg]
theorem inv_mk (a : Rat) : a⁻¹ = mkRat (sgn (qn a) a.den) a.num.natAbs := by
  rw [Rat.inv_def]
  have h := qn_sgn a
  generalize a.num = n at h
  generalize a.den = d
  cases n with
  | ofNat k =>
    have : qn a = false ∨ k = 0 := by
      cases hq : qn a with
      | false => exact .inl rfl
      | true => rw [hq, sgn_true] at h; simp only [Int.ofNat_eq_natCast] at h; omega
    show mkRat (d : Int) k = mkRat (sgn (qn a) d) (Int.natAbs (Int.ofNat k))
    rcases this with h | h
    · rw [h]; rfl
    · subst h; simp
  | negSucc k =>
    have : qn a = true := by
      cases hq : qn a with
      | true => rfl
      | false => rw [hq, sgn_false] at h; omega
    rw [this]
    show Rat.normalize (-(d : Int)) (k + 1) (Nat.succ_ne_zero k) = _
    rw [Rat.normalize_eq_mkRat]
    rfl
theorem div_mk (a b : Rat) : a / b = mkRat (sgn (qn a != qn b) (a.num.natAbs * b.den)) (a.den * b.num.natAbs) := by
  rw [Rat.div_def, inv_mk, ← Rat.mkRat_self a, Rat.mkRat_mul_mkRat, Rat.mkRat_self, ← sgn_mul, qn_sgn]
theorem qz_inv (a : Rat) : qz a⁻¹ ≤ qz a := by
  rw [inv_mk]
  refine Nat.le_trans (qz_mk _ _) ?_
  rw [sgn_abs]
  have := qz_pos a
  unfold qz at *
  omega
theorem qz_div (a b : Rat) : qz (a / b) ≤ qz a + qz b := by
  rw [Rat.div_def]
  have := qz_mul a b⁻¹
  have := qz_inv b
  omega
theorem qz_fit (n : Bool) (s t : ByteArray) : qz (fitQ n s t) ≤ max s.size (max t.size 1) := by
  by_cases h : GoodR n s t
  · rw [fit_good h]
    refine Nat.le_trans (qz_mk _ _) ?_
    rw [sgn_abs]
    obtain ⟨h1, h2, _⟩ := h
    have e1 := congrArg ByteArray.size h1
    have e2 := congrArg ByteArray.size h2
    rw [natS_size] at e1 e2
    omega
  · rw [fit_bad h, qz_zero]; omega
end Go.Proofs.YtnnbnecpcppkdaaDoor
namespace Go.Proofs.YtnnbnecpcppkdaaDoor
set_option linter.unusedVariables false
theorem pow_pos' {B : Nat} (hB : 0 < B) (k : Nat) : 0 < B ^ k := Nat.pow_pos hB
theorem split_at {B : Nat} (hB : 0 < B) (n j : Nat) : n = n % B ^ j + B ^ j * (n / B ^ j % B) + B ^ (j + 1) * (n / B ^ (j + 1)) := by
  have h1 := Nat.mod_add_div n (B ^ j)
  have h2 := Nat.mod_add_div (n / B ^ j) B
  have h3 : n / B ^ (j + 1) = n / B ^ j / B := by rw [Nat.div_div_eq_div_mul, Nat.pow_succ]
  rw [h3, Nat.pow_succ]
  grind
theorem mod_succ (B n k : Nat) : n % B ^ (k + 1) = n % B ^ k + B ^ k * (n / B ^ k % B) := by
  rw [Nat.pow_succ, Nat.mod_mul]
theorem low_mod {B : Nat} {a b k : Nat} (h : a < B ^ k) : (a + B ^ k * b) % B ^ k = a := by
  rw [Nat.add_mul_mod_self_left, Nat.mod_eq_of_lt h]
theorem low_div {B : Nat} {a b k : Nat} (h : a < B ^ k) : (a + B ^ k * b) / B ^ k = b := by
  have : 0 < B ^ k := by omega
  rw [Nat.add_mul_div_left _ _ this, Nat.div_eq_of_lt h, Nat.zero_add]
/-- one digit is set -/
theorem digs_upd {B m N N' j v : Nat} (hB : 0 < B) (hj : j < m) (hv : v < B) (h : N' + B ^ j * (N / B ^ j % B) = N + B ^ j * v) : (digs B m N).set j v = digs B m N' := by
  have h1 := split_at hB N j
  obtain ⟨r, hr⟩ : ∃ r, r = N % B ^ j := ⟨_, rfl⟩
  obtain ⟨d, hd⟩ : ∃ d, d = N / B ^ j % B := ⟨_, rfl⟩
  obtain ⟨q, hq⟩ : ∃ q, q = N / B ^ (j + 1) := ⟨_, rfl⟩
  have hrl : r < B ^ j := by rw [hr]; exact Nat.mod_lt _ (pow_pos' hB j)
  have hN' : N' = r + B ^ j * (v + B * q) := by
    rw [← hr, ← hd, ← hq, Nat.pow_succ] at h1
    rw [← hd] at h
    grind
  refine digs_set B m N N' j v hj ?_ ?_ ?_
  · rw [hN', low_mod hrl, hr]
  · rw [hN', low_div hrl, Nat.add_mul_mod_self_left, Nat.mod_eq_of_lt hv]
  · rw [Nat.pow_succ, ← Nat.div_div_eq_div_mul, hN', low_div hrl, Nat.add_mul_div_left _ _ hB, Nat.div_eq_of_lt hv, Nat.zero_add, hq, Nat.pow_succ]
/-- the next digit is set -/
theorem digs_put {B m N k v : Nat} (hB : 0 < B) (hk : k < m) (hN : N < B ^ k) (hv : v < B) : (digs B m N).set k v = digs B m (N + B ^ k * v) := by
  refine digs_upd hB hk hv ?_
  rw [Nat.div_eq_of_lt hN, Nat.zero_mod]
  rfl
/-- a sum grows by one digit -/
theorem carry_div {B : Nat} (hB : 0 < B) (S k e : Nat) : (S + B ^ k * e) / B ^ (k + 1) = (S / B ^ k + e) / B := by
  rw [Nat.pow_succ, ← Nat.div_div_eq_div_mul, Nat.add_mul_div_left _ _ (pow_pos' hB k)]
theorem carry_mod {B : Nat} (hB : 0 < B) (S k e : Nat) : (S + B ^ k * e) % B ^ (k + 1) = S % B ^ k + B ^ k * ((S / B ^ k + e) % B) := by
  rw [mod_succ, Nat.add_mul_mod_self_left, Nat.add_mul_div_left _ _ (pow_pos' hB k)]
/-- addition: the digits and the carry behind k steps -/
def addS (B X Y k : Nat) : Nat := X % B ^ k + Y % B ^ k
theorem addS_zero (B X Y : Nat) : addS B X Y 0 = 0 := by simp [addS, Nat.mod_one]
theorem addS_succ (B X Y k : Nat) : addS B X Y (k + 1) = addS B X Y k + B ^ k * (X / B ^ k % B + Y / B ^ k % B) := by
  unfold addS; rw [mod_succ, mod_succ]; grind
theorem addS_carry {B : Nat} (hB : 0 < B) (X Y k : Nat) : addS B X Y (k + 1) / B ^ (k + 1) = (addS B X Y k / B ^ k + X / B ^ k % B + Y / B ^ k % B) / B := by
  rw [addS_succ, carry_div hB, Nat.add_assoc]
theorem addS_digs {B : Nat} (hB : 0 < B) (X Y k m : Nat) (hk : k < m) : (digs B m (addS B X Y k % B ^ k)).set k ((addS B X Y k / B ^ k + X / B ^ k % B + Y / B ^ k % B) % B) = digs B m (addS B X Y (k + 1) % B ^ (k + 1)) := by
  rw [digs_put hB hk (Nat.mod_lt _ (pow_pos' hB k)) (Nat.mod_lt _ hB), addS_succ, carry_mod hB, Nat.add_assoc]
theorem addS_carry_le {B : Nat} (hB : 0 < B) (X Y k : Nat) : addS B X Y k / B ^ k ≤ 1 := by
  have h1 := Nat.mod_lt X (pow_pos' hB k)
  have h2 := Nat.mod_lt Y (pow_pos' hB k)
  have : addS B X Y k / B ^ k < 2 := by
    rw [Nat.div_lt_iff_lt_mul (pow_pos' hB k)]
    unfold addS
    omega
  omega
theorem addS_end {B : Nat} (hB : 0 < B) {X Y k : Nat} (hX : X < B ^ k) (hY : Y < B ^ k) : addS B X Y k = X + Y := by
  unfold addS; rw [Nat.mod_eq_of_lt hX, Nat.mod_eq_of_lt hY]
theorem addS_last {B : Nat} (hB : 1 < B) {X Y k : Nat} (hX : X < B ^ k) (hY : Y < B ^ k) : (digs B (k + 1) (addS B X Y k % B ^ k)).set k (addS B X Y k / B ^ k) = digs B (k + 1) (X + Y) := by
  have := addS_carry_le (B := B) (by omega) X Y k
  rw [digs_put (by omega) (by omega) (Nat.mod_lt _ (pow_pos' (by omega) k)) (by omega), Nat.mod_add_div, addS_end (by omega) hX hY]
/-- subtraction: the borrow behind k steps -/
def subB (B X Y k : Nat) : Nat := if X % B ^ k < Y % B ^ k then 1 else 0
theorem subB_le (B X Y k : Nat) : subB B X Y k ≤ 1 := by unfold subB; split <;> omega
theorem subB_zero (B X Y : Nat) : subB B X Y 0 = 0 := by simp [subB, Nat.mod_one]
def subN (B X Y k : Nat) : Nat := X + subB B X Y k * B ^ k - Y % B ^ k
theorem subN_zero (B X Y : Nat) : subN B X Y 0 = X := by simp [subN, subB_zero, Nat.mod_one]
theorem subN_fits {B : Nat} (hB : 0 < B) (X Y k : Nat) : Y % B ^ k ≤ X + subB B X Y k * B ^ k := by
  unfold subB
  have h1 := Nat.mod_lt Y (pow_pos' hB k)
  have h2 := Nat.mod_le X (B ^ k)
  split <;> omega
theorem subB_succ {B : Nat} (hB : 0 < B) (X Y k : Nat) : subB B X Y (k + 1) = if X / B ^ k % B < Y / B ^ k % B + subB B X Y k then 1 else 0 := by
  have hp := pow_pos' hB k
  unfold subB
  rw [mod_succ B X, mod_succ B Y]
  have h1 := Nat.mod_lt X hp
  have h2 := Nat.mod_lt Y hp
  generalize X / B ^ k % B = x at *
  generalize Y / B ^ k % B = y at *
  generalize X % B ^ k = a at *
  generalize Y % B ^ k = b at *
  generalize B ^ k = p at *
  rcases Nat.lt_trichotomy x y with h | h | h
  · have h3 : p * (x + 1) ≤ p * y := Nat.mul_le_mul_left p h
    rw [Nat.mul_add] at h3
    rw [if_pos (by omega), if_pos (by omega)]
  · subst h
    by_cases hab : a < b
    · rw [if_pos (by omega), if_pos hab, if_pos (by omega)]
    · rw [if_neg (by omega), if_neg hab, if_neg (by omega)]
  · have h3 : p * (y + 1) ≤ p * x := Nat.mul_le_mul_left p h
    rw [Nat.mul_add] at h3
    rw [if_neg (by omega)]
    split <;> rw [if_neg (by omega)]
theorem subN_eq {B : Nat} (hB : 0 < B) (X Y k : Nat) : subN B X Y k + Y % B ^ k = X + subB B X Y k * B ^ k := by
  have := subN_fits hB X Y k
  unfold subN
  omega
theorem subB_or (B X Y k : Nat) : (subB B X Y k = 1 ∧ X % B ^ k < Y % B ^ k) ∨ (subB B X Y k = 0 ∧ Y % B ^ k ≤ X % B ^ k) := by
  unfold subB
  by_cases h : X % B ^ k < Y % B ^ k
  · exact .inl ⟨if_pos h, h⟩
  · exact .inr ⟨if_neg h, by omega⟩
theorem subN_dig {B : Nat} (hB : 0 < B) (X Y k : Nat) : subN B X Y k / B ^ k = X / B ^ k := by
  have hp := pow_pos' hB k
  have h1 := subN_eq hB X Y k
  have h2 := Nat.mod_lt Y hp
  have h3 := Nat.mod_add_div X (B ^ k)
  have h4 := Nat.mod_lt X hp
  have h5 := subB_or B X Y k
  generalize subB B X Y k = c at *
  have : subN B X Y k = (X % B ^ k + c * B ^ k - Y % B ^ k) + B ^ k * (X / B ^ k) := by
    rcases h5 with ⟨rfl, h⟩ | ⟨rfl, h⟩ <;> simp only [Nat.zero_mul, Nat.one_mul, Nat.add_zero] at h1 ⊢ <;> generalize B ^ k * (X / B ^ k) = z at * <;> generalize X % B ^ k = a at * <;> generalize Y % B ^ k = b at * <;> generalize B ^ k = p at * <;> omega
  rw [this]
  refine low_div ?_
  rcases h5 with ⟨rfl, h⟩ | ⟨rfl, h⟩ <;> simp only [Nat.zero_mul, Nat.one_mul, Nat.add_zero] <;> generalize X % B ^ k = a at * <;> generalize Y % B ^ k = b at * <;> generalize B ^ k = p at * <;> omega
theorem subN_digs {B : Nat} (hB : 1 < B) (X Y k m : Nat) (hk : k < m) : (digs B m (subN B X Y k)).set k ((X / B ^ k % B + B - Y / B ^ k % B - subB B X Y k) % B) = digs B m (subN B X Y (k + 1)) := by
  have hB0 : 0 < B := by omega
  refine digs_upd hB0 hk (Nat.mod_lt _ hB0) ?_
  rw [subN_dig hB0]
  have h1 := subN_eq hB0 X Y k
  have h2 := subN_eq hB0 X Y (k + 1)
  rw [mod_succ, subB_succ hB0, Nat.pow_succ] at h2
  have h3 := subB_le B X Y k
  have hx := Nat.mod_lt (X / B ^ k) hB0
  have hy := Nat.mod_lt (Y / B ^ k) hB0
  generalize X / B ^ k % B = x at *
  generalize Y / B ^ k % B = y at *
  generalize subB B X Y k = c at *
  generalize B ^ k = p at *
  by_cases h : x < y + c
  · rw [if_pos h] at h2
    rw [Nat.mod_eq_of_lt (by omega)]
    obtain ⟨z, hz⟩ : ∃ z, z = x + B - y - c := ⟨_, rfl⟩
    have e : z + y + c = x + B := by omega
    rw [← hz]
    have e2 : p * z + p * y + p * c = p * x + p * B := by rw [← Nat.mul_add, ← Nat.mul_add, e, Nat.mul_add]
    grind
  · rw [if_neg h] at h2
    have e1 : x + B - y - c = (x - y - c) + B := by omega
    rw [e1, Nat.add_mod_right, Nat.mod_eq_of_lt (by omega)]
    obtain ⟨z, hz⟩ : ∃ z, z = x - y - c := ⟨_, rfl⟩
    have e : z + y + c = x := by omega
    rw [← hz]
    have e2 : p * z + p * y + p * c = p * x := by rw [← Nat.mul_add, ← Nat.mul_add, e]
    grind
theorem subN_end {B : Nat} (hB : 0 < B) {X Y k : Nat} (hX : X < B ^ k) (hY : Y < B ^ k) (h : Y ≤ X) : subN B X Y k = X - Y := by
  unfold subN subB
  rw [Nat.mod_eq_of_lt hX, Nat.mod_eq_of_lt hY, if_neg (by omega)]
  simp
end Go.Proofs.YtnnbnecpcppkdaaDoor
namespace Go.Proofs.YtnnbnecpcppkdaaDoor
set_option linter.unusedVariables false
theorem dig_lt {B : Nat} (hB : 0 < B) (N j : Nat) : N / B ^ j % B < B := Nat.mod_lt _ hB
theorem div_succ' (B N j : Nat) : N / B ^ (j + 1) = N / B ^ j / B := by rw [Nat.div_div_eq_div_mul, Nat.pow_succ]
/-- the number behind the set of a digit -/
def updN (B N j v : Nat) : Nat := N % B ^ j + B ^ j * (v + B * (N / B ^ (j + 1)))
theorem updN_eq {B : Nat} (hB : 0 < B) (N j v : Nat) : updN B N j v + B ^ j * (N / B ^ j % B) = N + B ^ j * v := by
  have h1 := split_at hB N j
  unfold updN
  rw [Nat.pow_succ] at *
  grind
theorem updN_digs {B m N j v : Nat} (hB : 0 < B) (hj : j < m) (hv : v < B) : (digs B m N).set j v = digs B m (updN B N j v) := digs_upd hB hj hv (updN_eq hB N j v)
theorem updN_high {B N j v : Nat} (hB : 0 < B) (hv : v < B) : updN B N j v / B ^ (j + 1) = N / B ^ (j + 1) := by
  rw [div_succ' B (updN B N j v)]
  unfold updN
  rw [low_div (Nat.mod_lt _ (pow_pos' hB j)), Nat.add_mul_div_left _ _ hB, Nat.div_eq_of_lt hv, Nat.zero_add]
theorem updN_lt {B N j v M : Nat} (hB : 0 < B) (hv : v < B) (hj : j < M) (hN : N < B ^ M) : updN B N j v < B ^ M := by
  have h1 := updN_high (N := N) (j := j) hB hv
  have hp := pow_pos' hB (j + 1)
  obtain ⟨k, rfl⟩ : ∃ k, M = (j + 1) + k := ⟨M - j - 1, by omega⟩
  rw [Nat.pow_add] at hN ⊢
  have h2 : N / B ^ (j + 1) < B ^ k := by rw [Nat.div_lt_iff_lt_mul hp, Nat.mul_comm]; exact hN
  rw [← h1, Nat.div_lt_iff_lt_mul hp, Nat.mul_comm] at h2
  exact h2
/-- multiplication: one step -/
theorem mul_tot {B c x y o : Nat} (hB : 0 < B) (hc : c < B) (hx : x < B) (hy : y < B) (ho : o < B) : c + x * y + o < B * B := by
  have h1 : x * y ≤ (B - 1) * (B - 1) := Nat.mul_le_mul (by omega) (by omega)
  obtain ⟨b, rfl⟩ : ∃ b, B = b + 1 := ⟨B - 1, by omega⟩
  rw [Nat.add_sub_cancel] at h1
  grind
theorem mul_step {B X Y i k N c : Nat} (hB : 0 < B) (h : N + c * B ^ (i + k) = X % B ^ i * Y + B ^ i * (X / B ^ i % B) * (Y % B ^ k)) :
    updN B N (i + k) ((c + X / B ^ i % B * (Y / B ^ k % B) + N / B ^ (i + k) % B) % B) + (c + X / B ^ i % B * (Y / B ^ k % B) + N / B ^ (i + k) % B) / B * B ^ (i + (k + 1)) = X % B ^ i * Y + B ^ i * (X / B ^ i % B) * (Y % B ^ (k + 1)) := by
  have h1 := updN_eq hB N (i + k) ((c + X / B ^ i % B * (Y / B ^ k % B) + N / B ^ (i + k) % B) % B)
  rw [mod_succ]
  generalize updN B N (i + k) ((c + X / B ^ i % B * (Y / B ^ k % B) + N / B ^ (i + k) % B) % B) = N' at *
  have h2 := Nat.mod_add_div (c + X / B ^ i % B * (Y / B ^ k % B) + N / B ^ (i + k) % B) B
  rw [← Nat.add_assoc, Nat.pow_succ]
  rw [Nat.pow_add] at *
  generalize (c + X / B ^ i % B * (Y / B ^ k % B) + N / (B ^ i * B ^ k) % B) / B = t1 at *
  generalize (c + X / B ^ i % B * (Y / B ^ k % B) + N / (B ^ i * B ^ k) % B) % B = t2 at *
  generalize X / B ^ i % B = x at *
  generalize Y / B ^ k % B = y at *
  generalize X % B ^ i = xl at *
  generalize Y % B ^ k = yl at *
  generalize N / (B ^ i * B ^ k) % B = o at *
  generalize B ^ i = p at *
  generalize B ^ k = r at *
  have h3 : p * r * (t2 + B * t1) = p * r * (c + x * y + o) := by rw [h2]
  grind
theorem mul_start (B X Y i : Nat) : X % B ^ i * Y + 0 * B ^ (i + 0) = X % B ^ i * Y + B ^ i * (X / B ^ i % B) * (Y % B ^ 0) := by simp [Nat.mod_one]
theorem mul_row {B X Y i ly N c : Nat} (hB : 0 < B) (hY : Y < B ^ ly) (h : N + c * B ^ (i + ly) = X % B ^ i * Y + B ^ i * (X / B ^ i % B) * (Y % B ^ ly)) : N + B ^ (i + ly) * c = X % B ^ (i + 1) * Y := by
  rw [Nat.mod_eq_of_lt hY] at h
  rw [mod_succ]
  grind
theorem mul_row_lt {B X Y i ly : Nat} (hB : 0 < B) (hY : Y < B ^ ly) : X % B ^ i * Y < B ^ (i + ly) := by
  rw [Nat.pow_add]
  have h1 := Nat.mod_lt X (pow_pos' hB i)
  exact Nat.lt_of_le_of_lt (Nat.mul_le_mul_left _ (Nat.le_of_lt hY)) (Nat.mul_lt_mul_of_pos_right h1 (pow_pos' hB ly))
/-- division by one digit: what stands behind the digits from i on -/
def divN (B X y i : Nat) : Nat := X % B ^ i + B ^ i * (X / B ^ i / y)
theorem divN_top {B X y m : Nat} (hX : X < B ^ m) : divN B X y m = X := by unfold divN; rw [Nat.mod_eq_of_lt hX, Nat.div_eq_of_lt hX]; simp
theorem divN_zero (B X y : Nat) : divN B X y 0 = X / y := by simp [divN, Nat.mod_one]
theorem divN_dig {B : Nat} (hB : 0 < B) (X y j : Nat) : divN B X y (j + 1) / B ^ j % B = X / B ^ j % B := by
  unfold divN
  rw [mod_succ, Nat.add_assoc, Nat.pow_succ, Nat.mul_assoc, ← Nat.mul_add, low_div (Nat.mod_lt _ (pow_pos' hB j)), Nat.add_mul_mod_self_left, Nat.mod_mod]
theorem div_step {B h d y : Nat} (hy : 0 < y) : (d + B * h) / y = B * (h / y) + (h % y * B + d) / y ∧ (d + B * h) % y = (h % y * B + d) % y := by
  have h1 := Nat.mod_add_div h y
  have e : d + B * h = (h % y * B + d) + y * (B * (h / y)) := by
    have : B * h = B * (h % y + y * (h / y)) := by rw [h1]
    rw [this]; grind
  rw [e]
  exact ⟨by rw [Nat.add_mul_div_left _ _ hy, Nat.add_comm], by rw [Nat.add_mul_mod_self_left]⟩
theorem divN_digs {B X y j m : Nat} (hB : 0 < B) (hy : 0 < y) (hj : j < m) : (digs B m (divN B X y (j + 1))).set j ((X / B ^ (j + 1) % y * B + X / B ^ j % B) / y) = digs B m (divN B X y j) := by
  have hd := dig_lt hB X j
  have hr : X / B ^ (j + 1) % y < y := Nat.mod_lt _ hy
  have hlt : (X / B ^ (j + 1) % y * B + X / B ^ j % B) / y < B := by
    rw [Nat.div_lt_iff_lt_mul hy]
    have : (X / B ^ (j + 1) % y + 1) * B ≤ y * B := Nat.mul_le_mul_right B hr
    rw [Nat.add_mul, Nat.one_mul, Nat.mul_comm y B] at this
    omega
  refine digs_upd hB hj hlt ?_
  rw [divN_dig hB]
  unfold divN
  have e1 : X / B ^ j = X / B ^ j % B + B * (X / B ^ (j + 1)) := by rw [div_succ', Nat.mod_add_div]
  rw [mod_succ B X j, Nat.pow_succ]
  rw [Nat.pow_succ] at e1
  have e2 := (div_step (B := B) (h := X / (B ^ j * B)) (d := X / B ^ j % B) hy).1
  rw [← e1] at e2
  rw [e2]
  grind
theorem rest_step {B X y j : Nat} (hB : 0 < B) (hy : 0 < y) : (X / B ^ (j + 1) % y * B + X / B ^ j % B) % y = X / B ^ j % y := by
  have e1 : X / B ^ j = X / B ^ j % B + B * (X / B ^ (j + 1)) := by rw [div_succ', Nat.mod_add_div]
  have e2 := (div_step (B := B) (h := X / B ^ (j + 1)) (d := X / B ^ j % B) hy).2
  rw [← e1] at e2
  exact e2.symm
/-- a shift left, digit by digit -/
theorem shl_step {B : Nat} (hB : 0 < B) (X i p : Nat) : X % B ^ (i + 1) * p = X % B ^ i * p + B ^ i * (X / B ^ i % B * p) := by rw [mod_succ]; grind
theorem shl_lt {B p : Nat} (hB : 0 < B) (hp : p ≤ B) (X i : Nat) : X % B ^ i * p < B ^ (i + 1) := by
  rw [Nat.pow_succ]
  exact Nat.lt_of_le_of_lt (Nat.mul_le_mul_left _ hp) (Nat.mul_lt_mul_of_pos_right (Nat.mod_lt _ (pow_pos' hB i)) hB)
theorem shl_top {B p : Nat} (hB : 0 < B) (hp : 0 < p) (X i : Nat) : X % B ^ i * p / B ^ i < p := by
  rw [Nat.div_lt_iff_lt_mul (pow_pos' hB i), Nat.mul_comm p]
  exact Nat.mul_lt_mul_of_pos_right (Nat.mod_lt _ (pow_pos' hB i)) hp
/-- both digits of a step of a shift left -/
theorem shl_digs {B p X i m : Nat} (hB : 0 < B) (hp : 0 < p) (hpB : p ≤ B) (hi : i + 1 < m) (hs : X % B ^ i * p / B ^ i + X / B ^ i % B * p % B < B) :
    ((digs B m (X % B ^ i * p)).set i (X % B ^ i * p / B ^ i + X / B ^ i % B * p % B)).set (i + 1) (X / B ^ i % B * p / B) = digs B m (X % B ^ (i + 1) * p) := by
  have h1 := shl_lt hB hpB X i
  have hd := dig_lt hB X i
  have ht : X % B ^ i * p / B ^ i % B = X % B ^ i * p / B ^ i := Nat.mod_eq_of_lt (by
    rw [Nat.div_lt_iff_lt_mul (pow_pos' hB i), Nat.mul_comm B]
    rw [Nat.pow_succ] at h1
    exact h1)
  have e1 : (digs B m (X % B ^ i * p)).set i (X % B ^ i * p / B ^ i + X / B ^ i % B * p % B) = digs B m (X % B ^ i * p + B ^ i * (X / B ^ i % B * p % B)) :=
    digs_upd hB (by omega) hs (by rw [ht]; grind)
  have hlt : X % B ^ i * p + B ^ i * (X / B ^ i % B * p % B) < B ^ (i + 1) := by
    have h2 := Nat.mod_add_div (X % B ^ i * p) (B ^ i)
    have h3 : X % B ^ i * p + B ^ i * (X / B ^ i % B * p % B) = X % B ^ i * p % B ^ i + B ^ i * (X % B ^ i * p / B ^ i + X / B ^ i % B * p % B) := by grind
    rw [h3, Nat.pow_succ]
    have h4 := Nat.mod_lt (X % B ^ i * p) (pow_pos' hB i)
    have h5 : B ^ i * (X % B ^ i * p / B ^ i + X / B ^ i % B * p % B + 1) ≤ B ^ i * B := Nat.mul_le_mul_left _ hs
    rw [Nat.mul_add] at h5
    omega
  have hq : X / B ^ i % B * p / B < B := by
    rw [Nat.div_lt_iff_lt_mul hB]
    exact Nat.lt_of_le_of_lt (Nat.mul_le_mul_left _ hpB) (Nat.mul_lt_mul_of_pos_right hd hB)
  rw [e1, digs_put hB hi hlt hq, shl_step hB, Nat.pow_succ, Nat.add_assoc]
  have h6 := Nat.mod_add_div (X / B ^ i % B * p) B
  have e2 : B ^ i * (X / B ^ i % B * p % B) + B ^ i * B * (X / B ^ i % B * p / B) = B ^ i * (X / B ^ i % B * p) := by
    rw [Nat.mul_assoc, ← Nat.mul_add, h6]
  rw [e2]
/-- a shift right in place -/
def shrN (B U p i : Nat) : Nat := U / p % B ^ i + B ^ i * (U / B ^ i)
theorem shrN_zero (B U p : Nat) : shrN B U p 0 = U := by simp [shrN, Nat.mod_one]
theorem shrN_end {B U p n : Nat} (hU : U < B ^ n) : shrN B U p n = U / p := by
  unfold shrN
  rw [Nat.div_eq_of_lt hU, Nat.mod_eq_of_lt (Nat.lt_of_le_of_lt (Nat.div_le_self _ _) hU)]
  rfl
theorem shrN_dig {B : Nat} (hB : 0 < B) (U p i : Nat) : shrN B U p i / B ^ i = U / B ^ i := low_div (Nat.mod_lt _ (pow_pos' hB i))
theorem shrN_next {B : Nat} (hB : 0 < B) (U p i : Nat) : shrN B U p i / B ^ (i + 1) = U / B ^ (i + 1) := by rw [div_succ', shrN_dig hB, div_succ']
theorem shrN_digs {B U p i m : Nat} (hB : 0 < B) (hi : i < m) : (digs B m (shrN B U p i)).set i (U / p / B ^ i % B) = digs B m (shrN B U p (i + 1)) := by
  refine digs_upd hB hi (dig_lt hB _ _) ?_
  rw [shrN_dig hB]
  unfold shrN
  rw [mod_succ, Nat.pow_succ]
  have e1 : U / B ^ i = U / B ^ i % B + B * (U / B ^ (i + 1)) := by rw [div_succ', Nat.mod_add_div]
  rw [Nat.pow_succ] at e1
  grind
/-- the digit of a number that is shifted right, from two digits -/
theorem shr_dig {p q U i : Nat} (hp : 0 < p) (hq : 0 < q) : U / p / (p * q) ^ i % (p * q) = U / (p * q) ^ i % (p * q) / p + U / (p * q) ^ (i + 1) % (p * q) * q % (p * q) := by
  have e1 : U / p / (p * q) ^ i = U / (p * q) ^ i / p := by rw [Nat.div_div_eq_div_mul, Nat.div_div_eq_div_mul, Nat.mul_comm]
  rw [e1, div_succ' (p * q)]
  generalize U / (p * q) ^ i = V
  have hpq : 0 < p * q := Nat.mul_pos hp hq
  obtain ⟨a, b, rfl, ha⟩ : ∃ a b, V = a + (p * q) * b ∧ a < p * q := ⟨V % (p * q), V / (p * q), (Nat.mod_add_div _ _).symm, Nat.mod_lt _ hpq⟩
  rw [Nat.add_mul_mod_self_left, Nat.mod_eq_of_lt ha, Nat.add_mul_div_left _ _ hpq, Nat.div_eq_of_lt ha, Nat.zero_add, Nat.mul_assoc, Nat.add_mul_div_left _ _ hp]
  have ha2 : a / p < q := by rw [Nat.div_lt_iff_lt_mul hp, Nat.mul_comm]; exact ha
  have e2 : b % (p * q) * q % (p * q) = q * (b % p) := by
    rw [Nat.mul_comm _ q, Nat.mul_comm p q, Nat.mul_mod_mul_left]
    congr 1
    rw [Nat.mul_comm q p, Nat.mod_mul_right_mod]
  rw [e2]
  have e3 : a / p + q * b = (a / p + q * (b % p)) + (p * q) * (b / p) := by
    have h1 := Nat.mod_add_div b p
    have : q * b = q * (b % p + p * (b / p)) := by rw [h1]
    grind
  rw [e3, Nat.add_mul_mod_self_left, Nat.mod_eq_of_lt]
  have hb : b % p + 1 ≤ p := Nat.mod_lt _ hp
  have h2 : q * (b % p + 1) ≤ q * p := Nat.mul_le_mul_left q hb
  rw [Nat.mul_add, Nat.mul_comm q p] at h2
  omega
/-- comparison from the top -/
theorem dig_cmp {B X Y i : Nat} (hB : 0 < B) (h : X / B ^ (i + 1) = Y / B ^ (i + 1)) (hl : X / B ^ i % B < Y / B ^ i % B) : X < Y := by
  have h1 := split_at hB X i
  have h2 := split_at hB Y i
  rw [h] at h1
  have h3 := Nat.mod_lt X (pow_pos' hB i)
  have h4 : B ^ i * (X / B ^ i % B + 1) ≤ B ^ i * (Y / B ^ i % B) := Nat.mul_le_mul_left _ hl
  rw [Nat.mul_add] at h4
  generalize B ^ (i + 1) * (Y / B ^ (i + 1)) = z at *
  generalize B ^ i * (X / B ^ i % B) = x at *
  generalize B ^ i * (Y / B ^ i % B) = y at *
  generalize X % B ^ i = xl at *
  generalize Y % B ^ i = yl at *
  generalize B ^ i = p at *
  omega
theorem dig_same {B X Y i : Nat} (h : X / B ^ (i + 1) = Y / B ^ (i + 1)) (hl : X / B ^ i % B = Y / B ^ i % B) : X / B ^ i = Y / B ^ i := by
  rw [div_succ', div_succ'] at h
  rw [← Nat.mod_add_div (X / B ^ i) B, ← Nat.mod_add_div (Y / B ^ i) B, h, hl]
/-- the last digit is zero -/
theorem top_zero {B X m : Nat} (hB : 0 < B) (hX : X < B ^ (m + 1)) (h : X / B ^ m % B = 0) : X < B ^ m := by
  have h1 : X / B ^ m < B := by
    rw [Nat.div_lt_iff_lt_mul (pow_pos' hB m), Nat.mul_comm]
    rwa [Nat.pow_succ] at hX
  rw [Nat.mod_eq_of_lt h1] at h
  rcases Nat.lt_or_ge X (B ^ m) with h2 | h2
  · exact h2
  · have := Nat.div_pos h2 (pow_pos' hB m)
    omega
theorem top_pos {B X m : Nat} (hB : 0 < B) (h : X / B ^ m % B ≠ 0) : B ^ m ≤ X := by
  rcases Nat.lt_or_ge X (B ^ m) with h2 | h2
  · rw [Nat.div_eq_of_lt h2] at h; simp at h
  · exact h2
end Go.Proofs.YtnnbnecpcppkdaaDoor
namespace Go.Proofs.YtnnbnecpcppkdaaDoor
set_option linter.unusedVariables false
theorem lt_of_mul_lt {a b p : Nat} (h : a * p < b * p) : a < b := Nat.lt_of_mul_lt_mul_right h
theorem guess_hi {B P v1 v2 vr V t u2 wr W q : Nat} (hV : V = (v1 * B + v2) * P + vr) (hW : W = (t * B + u2) * P + wr) (hwr : wr < P) (hu2 : u2 < B) (h1 : 0 < v1) (hq : q * V ≤ W) : q ≤ t / v1 := by
  rw [Nat.le_div_iff_mul_le h1]
  have e1 : q * v1 * (B * P) ≤ q * V := by
    rw [hV]
    have : q * v1 * (B * P) = q * (v1 * B * P) := by grind
    rw [this]
    exact Nat.mul_le_mul_left q (by rw [Nat.add_mul]; omega)
  have e2 : W < (t + 1) * (B * P) := by
    rw [hW]
    have h3 : (t * B + u2 + 1) * P ≤ (t * B + B) * P := Nat.mul_le_mul_right P (by omega)
    grind
  have := lt_of_mul_lt (a := q * v1) (b := t + 1) (p := B * P) (by omega)
  omega
theorem guess_lo {B P v1 v2 vr V t u2 wr W q d r : Nat} (hV : V = (v1 * B + v2) * P + vr) (hW : W = (t * B + u2) * P + wr) (hwr : wr < P) (hd : d * v1 + r = t) (hc : r * B + u2 < d * v2) (hq : q * V ≤ W) : q < d := by
  refine Nat.lt_of_not_le fun hle => ?_
  have h1 : d * V ≤ W := Nat.le_trans (Nat.mul_le_mul_right V hle) hq
  have h2 : d * ((v1 * B + v2) * P) ≤ d * V := Nat.mul_le_mul_left d (by omega)
  have h3 : d * (v1 * B + v2) * P < (t * B + u2 + 1) * P := by
    have : W < (t * B + u2 + 1) * P := by rw [hW]; grind
    have e : d * (v1 * B + v2) * P = d * ((v1 * B + v2) * P) := by grind
    omega
  have h4 := lt_of_mul_lt h3
  rw [← hd] at h4
  have e : d * (v1 * B + v2) = d * v1 * B + d * v2 := by grind
  have e2 : (d * v1 + r) * B = d * v1 * B + r * B := by grind
  omega
/-- the guess is too great by at most 1 -/
theorem guess_near {B P v1 v2 vr V t u2 wr W d : Nat} (hV : V = (v1 * B + v2) * P + vr) (hW : W = (t * B + u2) * P + wr) (hvr : vr < P) (h1 : 0 < v1) (hdB : d < B) (hc : d * (v1 * B + v2) ≤ t * B + u2) : d * V ≤ W + V := by
  cases d with
  | zero => omega
  | succ d =>
    have hB : B ≤ v1 * B := Nat.le_mul_of_pos_left B h1
    obtain ⟨x, hx⟩ : ∃ x, x = v1 * B + v2 := ⟨_, rfl⟩
    rw [← hx] at hc hV
    have h2 : d * V ≤ d * ((x + 1) * P) := Nat.mul_le_mul_left d (by rw [hV]; grind)
    have h3 : d * (x + 1) ≤ (d + 1) * x := by grind
    have h4 : d * (x + 1) * P ≤ (t * B + u2) * P := Nat.mul_le_mul_right P (by omega)
    have e : d * ((x + 1) * P) = d * (x + 1) * P := by grind
    have e2 : (d + 1) * V = d * V + V := by grind
    omega
/-- where the guess is left with a great rest -/
theorem guess_rest {B v1 v2 V t u2 d r : Nat} (hv2 : v2 < B) (hd : d * v1 + r = t) (hr : B ≤ r) (hdB : d < B) : d * (v1 * B + v2) ≤ t * B + u2 := by
  have h1 : d * v2 ≤ B * B := Nat.mul_le_mul (by omega) (by omega)
  have h2 : B * B ≤ r * B := Nat.mul_le_mul_right B hr
  have e : d * (v1 * B + v2) = d * v1 * B + d * v2 := by grind
  have e2 : t * B = d * v1 * B + r * B := by rw [← hd]; grind
  omega
theorem guess_top {B P v1 v2 vr V t u2 wr W : Nat} (hV : V = (v1 * B + v2) * P + vr) (hvr : vr < P) (hv2 : v2 < B) (hW : W = (t * B + u2) * P + wr) (h : W < V * B) : t < (v1 + 1) * B := by
  have hP : 0 < P := by omega
  have h1 : V < (v1 + 1) * B * P := by
    rw [hV]
    have : (v1 * B + v2 + 1) * P ≤ (v1 * B + B) * P := Nat.mul_le_mul_right P (by omega)
    grind
  have hB : 0 < B := by omega
  have h2 : t * (B * P) < (v1 + 1) * B * (B * P) := by
    have e1 : t * (B * P) ≤ W := by rw [hW]; grind
    have e2 : V * B < (v1 + 1) * B * P * B := Nat.mul_lt_mul_of_pos_right h1 hB
    grind
  exact lt_of_mul_lt h2
theorem guess_small {B v1 t d r : Nat} (hd : d * v1 + r = t) (hr : B ≤ r) (ht : t < (v1 + 1) * B) : d < B := by
  refine lt_of_mul_lt (p := v1) ?_
  grind
/-- one step of taking away -/
theorem take_step {B n W V d i N c b : Nat} (hB : 1 < B) (h : N + d * (V % B ^ i) = W + (c + b) * B ^ i) (hN : N / B ^ i = W / B ^ i) (hb : b ≤ 1) (hc : c < B) (hd : d < B) :
    let t := c + d * (V / B ^ i % B)
    let v := (W / B ^ i % B + B - t % B + B - b) % B
    let b' := if W / B ^ i % B < t % B + b then 1 else 0
    updN B N i v + d * (V % B ^ (i + 1)) = W + (t / B + b') * B ^ (i + 1) ∧ updN B N i v / B ^ (i + 1) = W / B ^ (i + 1) ∧ t / B < B ∧ b' ≤ 1 ∧ v < B := by
  intro t v b'
  have hB0 : 0 < B := by omega
  have hv : v < B := Nat.mod_lt _ hB0
  have hdv : d * (V / B ^ i % B) ≤ (B - 1) * (B - 1) := Nat.mul_le_mul (by omega) (by have := dig_lt hB0 V i; omega)
  have ht : t / B < B := by
    rw [Nat.div_lt_iff_lt_mul hB0]
    obtain ⟨k, rfl⟩ : ∃ k, B = k + 1 := ⟨B - 1, by omega⟩
    rw [Nat.add_sub_cancel] at hdv
    show c + _ < _
    grind
  have hb' : b' ≤ 1 := by show (if _ then 1 else 0) ≤ 1; split <;> omega
  refine ⟨?_, ?_, ht, hb', hv⟩
  · have h1 := updN_eq hB0 N i v
    rw [hN] at h1
    have h2 : v + t % B + b = W / B ^ i % B + B * b' := by
      have hu := dig_lt hB0 W i
      have htB : t % B < B := Nat.mod_lt _ hB0
      show (W / B ^ i % B + B - t % B + B - b) % B + t % B + b = W / B ^ i % B + B * (if W / B ^ i % B < t % B + b then 1 else 0)
      generalize W / B ^ i % B = u at *
      generalize t % B = s at *
      by_cases hlt : u < s + b
      · rw [if_pos hlt]
        rcases Nat.lt_or_ge (u + B) (s + b) with h3 | h3
        · omega
        · by_cases h4 : u + B - s - b < B
          · have : u + B - s + B - b = (u + B - s - b) + B := by omega
            rw [this, Nat.add_mod_right, Nat.mod_eq_of_lt h4]
            omega
          · omega
      · rw [if_neg hlt]
        have : u + B - s + B - b = (u - s - b) + B + B := by omega
        rw [this, Nat.add_mod_right, Nat.add_mod_right, Nat.mod_eq_of_lt (by omega)]
        omega
    have h3 := Nat.mod_add_div t B
    rw [mod_succ, Nat.pow_succ]
    have h4 : t = c + d * (V / B ^ i % B) := rfl
    generalize updN B N i v = N' at *
    generalize t / B = t1 at *
    generalize t % B = t2 at *
    generalize W / B ^ i % B = u at *
    generalize V / B ^ i % B = y at *
    generalize V % B ^ i = vl at *
    generalize B ^ i = p at *
    have h5 : p * (v + t2 + b) = p * (u + B * b') := by rw [h2]
    have h6 : p * (t2 + B * t1) = p * (c + d * y) := by rw [h3, h4]
    clear_value t v b'
    grind
  · rw [updN_high hB0 hv, div_succ', hN, div_succ']
theorem take_end {B n W V d N c b : Nat} (hB : 1 < B) (h : N + d * (V % B ^ n) = W + (c + b) * B ^ n) (hN : N / B ^ n = W / B ^ n) (hV : V < B ^ n) (hW : W < B ^ (n + 1)) (hb : b ≤ 1) (hc : c < B) :
    let v := (W / B ^ n % B + B - c + B - b) % B
    let b' := if W / B ^ n % B < c + b then 1 else 0
    updN B N n v + d * V = W + b' * B ^ (n + 1) ∧ updN B N n v < B ^ (n + 1) ∧ v < B := by
  intro v b'
  have hB0 : 0 < B := by omega
  have hv : v < B := Nat.mod_lt _ hB0
  have hNl : N < B ^ (n + 1) := by
    have : N / B ^ n < B := by rw [hN, Nat.div_lt_iff_lt_mul (pow_pos' hB0 n), Nat.mul_comm, ← Nat.pow_succ]; exact hW
    rw [Nat.div_lt_iff_lt_mul (pow_pos' hB0 n), Nat.mul_comm, ← Nat.pow_succ] at this
    exact this
  refine ⟨?_, updN_lt hB0 hv (by omega) hNl, hv⟩
  have h1 := updN_eq hB0 N n v
  rw [hN] at h1
  rw [Nat.mod_eq_of_lt hV] at h
  have h2 : v + c + b = W / B ^ n % B + B * b' := by
    have hu := dig_lt hB0 W n
    show (W / B ^ n % B + B - c + B - b) % B + c + b = W / B ^ n % B + B * (if W / B ^ n % B < c + b then 1 else 0)
    generalize W / B ^ n % B = u at *
    by_cases hlt : u < c + b
    · rw [if_pos hlt]
      have : u + B - c + B - b = (u + B - c - b) + B := by omega
      rw [this, Nat.add_mod_right, Nat.mod_eq_of_lt (by omega)]
      omega
    · rw [if_neg hlt]
      have : u + B - c + B - b = (u - c - b) + B + B := by omega
      rw [this, Nat.add_mod_right, Nat.add_mod_right, Nat.mod_eq_of_lt (by omega)]
      omega
  rw [Nat.pow_succ]
  generalize updN B N n v = N' at *
  generalize W / B ^ n % B = u at *
  generalize B ^ n = p at *
  have h5 : p * (v + c + b) = p * (u + B * b') := by rw [h2]
  clear_value v b'
  grind
/-- one step of putting back -/
theorem back_step {B M V i N c : Nat} (hB : 1 < B) (h : N + c * B ^ i = M + V % B ^ i) (hN : N / B ^ i = M / B ^ i) (hc : c ≤ 1) :
    let t := c + M / B ^ i % B + V / B ^ i % B
    updN B N i (t % B) + t / B * B ^ (i + 1) = M + V % B ^ (i + 1) ∧ updN B N i (t % B) / B ^ (i + 1) = M / B ^ (i + 1) ∧ t / B ≤ 1 := by
  intro t
  have hB0 : 0 < B := by omega
  have hv : t % B < B := Nat.mod_lt _ hB0
  have h1 := updN_eq hB0 N i (t % B)
  rw [hN] at h1
  refine ⟨?_, ?_, ?_⟩
  · have h3 := Nat.mod_add_div t B
    rw [mod_succ, Nat.pow_succ]
    have h4 : t = c + M / B ^ i % B + V / B ^ i % B := rfl
    generalize updN B N i (t % B) = N' at *
    generalize t / B = t1 at *
    generalize t % B = t2 at *
    generalize M / B ^ i % B = u at *
    generalize V / B ^ i % B = y at *
    generalize V % B ^ i = vl at *
    generalize B ^ i = p at *
    have h6 : p * (t2 + B * t1) = p * (c + u + y) := by rw [h3, h4]
    clear_value t
    grind
  · rw [updN_high hB0 hv, div_succ', hN, div_succ']
  · have hx := dig_lt hB0 M i
    have hy := dig_lt hB0 V i
    have : t < 2 * B := by show c + _ + _ < _; omega
    have h2 : t / B < 2 := by rw [Nat.div_lt_iff_lt_mul hB0]; exact this
    omega
theorem back_end {B n M V N c : Nat} (hB : 1 < B) (h : N + c * B ^ n = M + V % B ^ n) (hN : N / B ^ n = M / B ^ n) (hV : V < B ^ n) (hM : M < B ^ (n + 1)) :
    updN B N n ((M / B ^ n % B + c) % B) = (M + V) % B ^ (n + 1) := by
  have hB0 : 0 < B := by omega
  have hv : (M / B ^ n % B + c) % B < B := Nat.mod_lt _ hB0
  rw [Nat.mod_eq_of_lt hV] at h
  rw [← h, mod_succ, Nat.add_mul_mod_self_right, Nat.add_mul_div_right _ _ (pow_pos' hB0 n), hN]
  unfold updN
  have e1 : N / B ^ (n + 1) = 0 := by
    rw [div_succ', hN, ← div_succ', Nat.div_eq_of_lt hM]
  rw [e1]
  simp [Nat.add_mod]
end Go.Proofs.YtnnbnecpcppkdaaDoor
namespace Go.Proofs.YtnnbnecpcppkdaaDoor
set_option linter.unusedVariables false
theorem odd_coprime {y k : Nat} (hy : y % 2 = 1) : Nat.Coprime (2 ^ k) y := by
  refine Nat.Coprime.pow_left k ?_
  show Nat.gcd 2 y = 1
  rw [Nat.gcd_rec, hy]
  rfl
theorem gcd_half {x y k : Nat} (hy : y % 2 = 1) : Nat.gcd (2 ^ k * x) y = Nat.gcd x y := (odd_coprime hy).gcd_mul_left_cancel x
theorem gcd_less {x y : Nat} (h : y ≤ x) : Nat.gcd (x - y) y = Nat.gcd x y := by
  have e : x = (x - y) + y := by omega
  conv => rhs; rw [e]
  simp
theorem odd_of {x k z : Nat} (h : x = 2 ^ k * z) (hz : z % 2 = 1) (hk : 0 < k) : x % 2 = 0 := by
  obtain ⟨j, rfl⟩ : ∃ j, k = j + 1 := ⟨k - 1, by omega⟩
  rw [h, Nat.pow_succ, Nat.mul_assoc, Nat.mul_comm, Nat.mul_assoc]
  simp
theorem gcd_powers {x y n m : Nat} (hx : x % 2 = 1) (hy : y % 2 = 1) : Nat.gcd (2 ^ n * x) (2 ^ m * y) = 2 ^ min n m * Nat.gcd x y := by
  rcases Nat.le_total n m with h | h
  · rw [Nat.min_eq_left h]
    obtain ⟨d, rfl⟩ : ∃ d, m = n + d := ⟨m - n, by omega⟩
    rw [Nat.pow_add, Nat.mul_assoc, Nat.gcd_mul_left, Nat.gcd_comm, gcd_half hx, Nat.gcd_comm]
  · rw [Nat.min_eq_right h]
    obtain ⟨d, rfl⟩ : ∃ d, n = m + d := ⟨n - m, by omega⟩
    rw [Nat.pow_add, Nat.mul_assoc, Nat.gcd_mul_left, gcd_half hy]
theorem gcd_step {x y : Nat} (hy : 0 < y) : Nat.gcd y (x % y) = Nat.gcd x y := by
  rw [Nat.gcd_comm x y, Nat.gcd_rec y x, Nat.gcd_comm]
/-- the bytes of a power of two -/
theorem power_val (n k : Nat) (c : UInt8) (hc : c.toNat = 2 ^ (n % 8)) (hk : k = n / 8) : bval (c :: List.replicate k 0) = 2 ^ n := by
  have e0 : ∀ k, bval (List.replicate k 0) = 0 := by
    intro k
    induction k with
    | zero => rfl
    | succ k ih => rw [List.replicate_succ, bval_cons, ih]; simp
  rw [bval_cons, e0, hc, List.length_replicate, hk]
  have : (256 : Nat) ^ (n / 8) = 2 ^ (8 * (n / 8)) := by rw [Nat.pow_mul]
  rw [this, Nat.add_zero, ← Nat.pow_add, Nat.mod_add_div]
end Go.Proofs.YtnnbnecpcppkdaaDoor
namespace Go.Proofs.YtnnbnecpcppkdaaDoor
set_option linter.unusedVariables false
theorem two_top {B n W : Nat} (hB : 0 < B) (hn : 2 ≤ n) : W = (W / B ^ (n - 1) * B + W / B ^ (n - 2) % B) * B ^ (n - 2) + W % B ^ (n - 2) := by
  have h1 := Nat.mod_add_div W (B ^ (n - 2))
  have h2 := Nat.mod_add_div (W / B ^ (n - 2)) B
  have h3 : W / B ^ (n - 1) = W / B ^ (n - 2) / B := by rw [Nat.div_div_eq_div_mul, show n - 1 = n - 2 + 1 by omega, Nat.pow_succ]
  rw [h3, Nat.mul_comm _ B, Nat.add_comm (B * _), h2, Nat.mul_comm, Nat.add_comm]
  exact h1.symm
/-- the top digits of the window, as one number -/
theorem top_two {B n W : Nat} (hB : 0 < B) (hn : 1 ≤ n) (hW : W < B ^ (n + 1)) : W / B ^ n % B * B + W / B ^ (n - 1) % B = W / B ^ (n - 1) := by
  have h1 : W / B ^ n < B := by
    rw [Nat.div_lt_iff_lt_mul (pow_pos' hB n), Nat.mul_comm, ← Nat.pow_succ]; exact hW
  rw [Nat.mod_eq_of_lt h1]
  have h3 : W / B ^ n = W / B ^ (n - 1) / B := by rw [Nat.div_div_eq_div_mul, ← Nat.pow_succ]; congr 2; omega
  rw [h3, Nat.mul_comm, Nat.add_comm]
  exact Nat.mod_add_div _ _
/-- what holds of the guess while it is lowered -/
def Guess (B V W n d r : Nat) : Prop := d * (V / B ^ (n - 1)) + r = W / B ^ (n - 1) ∧ r < B ∧ W / V ≤ d
/-- what holds of it at the end -/
def Guessed (B V W d : Nat) : Prop := d < B ∧ W / V ≤ d ∧ d * V ≤ W + V
section
variable {B V W n d r : Nat}
theorem Guess.start (hB : 0 < B) (hn : 2 ≤ n) (h1 : 0 < V / B ^ (n - 1)) (hv1 : V / B ^ (n - 1) ≤ B) (hV : 0 < V) : Guess B V W n (W / B ^ (n - 1) / (V / B ^ (n - 1))) (W / B ^ (n - 1) % (V / B ^ (n - 1))) := by
  refine ⟨?_, ?_, ?_⟩
  · rw [Nat.mul_comm, Nat.add_comm]; exact Nat.mod_add_div _ _
  · have := Nat.mod_lt (W / B ^ (n - 1)) h1
    omega
  · refine guess_hi (two_top hB hn) (two_top hB hn) (Nat.mod_lt _ (pow_pos' hB _)) (Nat.mod_lt _ hB) h1 ?_
    exact Nat.div_mul_le_self W V
theorem Guess.dec (hB : 0 < B) (hn : 2 ≤ n) (h : Guess B V W n d r) (hV : 0 < V) (hWV : W < V * B) (hc : B ≤ d ∨ r * B + W / B ^ (n - 2) % B < d * (V / B ^ (n - 2) % B)) : 1 ≤ d ∧ W / V ≤ d - 1 := by
  obtain ⟨h1, h2, h3⟩ := h
  have hq : W / V < B := by rw [Nat.div_lt_iff_lt_mul hV, Nat.mul_comm]; exact hWV
  rcases hc with hc | hc
  · generalize W / V = q at *
    omega
  · have := guess_lo (two_top (W := V) hB hn) (two_top (W := W) hB hn) (Nat.mod_lt _ (pow_pos' hB _)) h1 hc (Nat.div_mul_le_self W V)
    generalize W / V = q at *
    omega
theorem Guess.down (h : Guess B V W n d r) (hd : 1 ≤ d ∧ W / V ≤ d - 1) (hr : r + V / B ^ (n - 1) < B) : Guess B V W n (d - 1) (r + V / B ^ (n - 1)) := by
  obtain ⟨h1, h2, h3⟩ := h
  refine ⟨?_, hr, hd.2⟩
  rw [← h1]
  obtain ⟨e, rfl⟩ : ∃ e, d = e + 1 := ⟨d - 1, by omega⟩
  rw [Nat.add_sub_cancel]
  grind
theorem Guess.done (hB : 0 < B) (hn : 2 ≤ n) (h : Guess B V W n d r) (h1 : 0 < V / B ^ (n - 1)) (hd : d < B) (hc : d * (V / B ^ (n - 2) % B) ≤ r * B + W / B ^ (n - 2) % B) : Guessed B V W d := by
  obtain ⟨e1, e2, e3⟩ := h
  refine ⟨hd, e3, ?_⟩
  refine guess_near (two_top hB hn) (two_top hB hn) (Nat.mod_lt _ (pow_pos' hB _)) h1 hd ?_
  rw [← e1]
  generalize V / B ^ (n - 1) = v1 at *
  generalize V / B ^ (n - 2) % B = v2 at *
  generalize W / B ^ (n - 2) % B = u2 at *
  have : d * (v1 * B + v2) = d * v1 * B + d * v2 := by grind
  have e2 : (d * v1 + r) * B = d * v1 * B + r * B := by grind
  omega
theorem Guess.left (hB : 0 < B) (hn : 2 ≤ n) (h : Guess B V W n d r) (h1 : 0 < V / B ^ (n - 1)) (hWV : W < V * B) (hd : 1 ≤ d ∧ W / V ≤ d - 1) (hr : B ≤ r + V / B ^ (n - 1)) : Guessed B V W (d - 1) := by
  obtain ⟨e1, e2, e3⟩ := h
  obtain ⟨e, rfl⟩ : ∃ e, d = e + 1 := ⟨d - 1, by omega⟩
  rw [Nat.add_sub_cancel] at hd ⊢
  have hh : e * (V / B ^ (n - 1)) + (r + V / B ^ (n - 1)) = W / B ^ (n - 1) := by rw [← e1]; grind
  have ht := guess_top (two_top (W := V) hB hn) (Nat.mod_lt _ (pow_pos' hB _)) (Nat.mod_lt _ hB) (two_top (W := W) hB hn) hWV
  have hs := guess_small hh hr ht
  refine ⟨hs, hd.2, ?_⟩
  exact guess_near (two_top hB hn) (two_top hB hn) (Nat.mod_lt _ (pow_pos' hB _)) h1 hs (guess_rest (V := V) (Nat.mod_lt _ hB) hh hr hs)
/-- the guess was right -/
theorem Guessed.right (h : Guessed B V W d) {N M : Nat} (hV : 0 < V) (hN : N + d * V = W + 0 * M) : d = W / V ∧ N = W % V := by
  obtain ⟨h1, h2, h3⟩ := h
  have h4 : d ≤ W / V := by
    rw [Nat.le_div_iff_mul_le hV]
    rw [Nat.zero_mul] at hN
    omega
  have h5 : d = W / V := by omega
  have h6 := Nat.mod_add_div W V
  rw [Nat.mul_comm V, ← h5] at h6
  exact ⟨h5, by omega⟩
/-- the guess was too great -/
theorem Guessed.wrong (h : Guessed B V W d) {N M : Nat} (hV : 0 < V) (hVM : V ≤ M) (hNM : N < M) (hN : N + d * V = W + 1 * M) : d = W / V + 1 ∧ (N + V) % M = W % V := by
  obtain ⟨h1, h2, h3⟩ := h
  have h4 : W / V < d := by
    refine Nat.lt_of_not_le fun hle => ?_
    have h7 : d * V ≤ W := by rw [← Nat.le_div_iff_mul_le hV]; exact hle
    omega
  have h40 : 0 < d := Nat.lt_of_le_of_lt (Nat.zero_le _) h4
  obtain ⟨e, rfl⟩ : ∃ e, d = e + 1 := ⟨d - 1, by omega⟩
  have h5 : e ≤ W / V := by
    rw [Nat.le_div_iff_mul_le hV]
    rw [Nat.add_mul] at h3
    omega
  have h6 : e = W / V := by omega
  refine ⟨by omega, ?_⟩
  have h7 := Nat.mod_add_div W V
  rw [Nat.mul_comm V, ← h6] at h7
  have h8 := Nat.mod_lt W hV
  rw [Nat.add_mul] at hN
  have h9 : N + V = W % V + M := by omega
  rw [h9, Nat.add_mod_right, Nat.mod_eq_of_lt (by omega)]
end
/-- one digit of the quotient -/
theorem long_step {B U V Q U0 k : Nat} (hB : 0 < B) (hV : 0 < V) (h : U + V * Q = U0) (hU : U < V * B ^ (k + 1)) (hQ : Q % B ^ (k + 1) = 0) :
    let W := U / B ^ k
    let U' := U % B ^ k + B ^ k * (W % V)
    let Q' := Q + B ^ k * (W / V)
    W < V * B ∧ W / V < B ∧ U' + V * Q' = U0 ∧ U' < V * B ^ k ∧ Q' % B ^ k = 0 ∧ Q / B ^ k % B = 0 := by
  intro W U' Q'
  have hp := pow_pos' hB k
  have h1 : W < V * B := by
    show U / B ^ k < V * B
    rw [Nat.div_lt_iff_lt_mul hp, Nat.mul_assoc, Nat.mul_comm B, ← Nat.pow_succ]
    exact hU
  have hQk : Q % B ^ k + B ^ k * (Q / B ^ k % B) = 0 := by rw [← mod_succ]; exact hQ
  have hQ0 : Q % B ^ k = 0 := Nat.eq_zero_of_add_eq_zero_right hQk
  have hQ1 : Q / B ^ k % B = 0 := by
    have : B ^ k * (Q / B ^ k % B) = 0 := Nat.eq_zero_of_add_eq_zero_left hQk
    rcases Nat.mul_eq_zero.mp this with h2 | h2
    · omega
    · exact h2
  refine ⟨h1, by rw [Nat.div_lt_iff_lt_mul hV, Nat.mul_comm]; exact h1, ?_, ?_, ?_, hQ1⟩
  · have h2 := Nat.mod_add_div U (B ^ k)
    have h3 := Nat.mod_add_div W V
    have e : U % B ^ k + B ^ k * W = U := h2
    rw [← h]
    have : U = U % B ^ k + B ^ k * (W % V + V * (W / V)) := by rw [h3]; exact h2.symm
    show U % B ^ k + B ^ k * (W % V) + V * (Q + B ^ k * (W / V)) = U + V * Q
    rw [Nat.mul_add] at this ⊢
    have e3 : V * (B ^ k * (W / V)) = B ^ k * (V * (W / V)) := by rw [Nat.mul_left_comm]
    omega
  · have h2 : W % V < V := Nat.mod_lt _ hV
    have h3 : B ^ k * (W % V + 1) ≤ B ^ k * V := Nat.mul_le_mul_left _ h2
    have h4 := Nat.mod_lt U hp
    rw [Nat.mul_comm V]
    rw [Nat.mul_add] at h3
    show U % B ^ k + B ^ k * (W % V) < B ^ k * V
    omega
  · show (Q + B ^ k * (W / V)) % B ^ k = 0
    rw [Nat.add_mul_mod_self_left]; exact hQ0
end Go.Proofs.YtnnbnecpcppkdaaDoor
