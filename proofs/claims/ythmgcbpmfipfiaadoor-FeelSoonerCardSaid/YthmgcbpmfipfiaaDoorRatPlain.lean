/- Rational numbers as three parts (a sign, a numerator, a denominator), plain. Conditions: those typed. -/
import Derived.Test.YthmgcbpmfipfiaaDoorNatPlain
namespace Go.Proofs.YthmgcbpmfipfiaaDoor
def sgn (n : Bool) (x : Nat) : Int := if n = true then -(x : Int) else (x : Int)
theorem sgn_false (x : Nat) : sgn false x = x := rfl
theorem sgn_true (x : Nat) : sgn true x = -(x : Int) := rfl
theorem sgn_zero (n : Bool) : sgn n 0 = 0 := by cases n <;> rfl
theorem sgn_abs (n : Bool) (x : Nat) : (sgn n x).natAbs = x := by cases n <;> simp [sgn]
theorem sgn_mul (n m : Bool) (x y : Nat) : sgn n x * sgn m y = sgn (n != m) (x * y) := by
  cases n <;> cases m <;> simp [sgn, Int.neg_mul, Int.mul_neg]
theorem sgn_mul_nat (n : Bool) (x y : Nat) : sgn n x * (y : Int) = sgn n (x * y) := by cases n <;> simp [sgn, Int.neg_mul]
def qn (q : Rat) : Bool := decide (q.num < 0)
def qs (q : Rat) : ByteArray := natS q.num.natAbs
def qt (q : Rat) : ByteArray := natS q.den
theorem qn_sgn (q : Rat) : sgn (qn q) q.num.natAbs = q.num := by
  unfold sgn qn
  by_cases h : q.num < 0
  · rw [if_pos (decide_eq_true h)]; omega
  · rw [if_neg (by simpa using h)]; omega
def GoodR (n : Bool) (s t : ByteArray) : Prop := natS (sval s) = s ∧ natS (sval t) = t ∧ sval t ≠ 0 ∧ (sval s = 0 → n = false) ∧ Nat.gcd (sval s) (sval t) = 1
instance (n : Bool) (s t : ByteArray) : Decidable (GoodR n s t) := by unfold GoodR; infer_instance
def fitQ (n : Bool) (s t : ByteArray) : Rat := if GoodR n s t then mkRat (sgn n (sval s)) (sval t) else 0
theorem fit_bad {n : Bool} {s t : ByteArray} (h : ¬ GoodR n s t) : fitQ n s t = 0 := if_neg h
theorem fit_good {n : Bool} {s t : ByteArray} (h : GoodR n s t) : fitQ n s t = mkRat (sgn n (sval s)) (sval t) := if_pos h
theorem mk_parts {n : Bool} {a b : Nat} (hb : b ≠ 0) (hz : a = 0 → n = false) : qn (mkRat (sgn n a) b) = n ∧ qs (mkRat (sgn n a) b) = natS (a / Nat.gcd a b) ∧ qt (mkRat (sgn n a) b) = natS (b / Nat.gcd a b) := by
  have hg : 0 < Nat.gcd a b := Nat.gcd_pos_of_pos_right a (Nat.pos_of_ne_zero hb)
  have hn : (mkRat (sgn n a) b).num = sgn n (a / Nat.gcd a b) := by
    rw [Rat.num_mkRat, if_neg hb, sgn_abs, Nat.gcd_comm]
    cases n
    · rfl
    · rw [sgn_true, sgn_true, Int.neg_ediv_of_dvd (Int.ofNat_dvd.mpr (Nat.gcd_dvd_left a b)), Int.natCast_ediv]
  have hd : (mkRat (sgn n a) b).den = b / Nat.gcd a b := by rw [Rat.den_mkRat, if_neg hb, sgn_abs, Nat.gcd_comm]
  refine ⟨?_, by unfold qs; rw [hn, sgn_abs], by unfold qt; rw [hd]⟩
  unfold qn
  rw [hn]
  cases n
  · rw [sgn_false]
    generalize a / Nat.gcd a b = k
    exact decide_eq_false (by omega)
  · have ha : a ≠ 0 := fun h => by cases hz h
    have h1 : 0 < a / Nat.gcd a b := Nat.div_pos (Nat.le_of_dvd (Nat.pos_of_ne_zero ha) (Nat.gcd_dvd_left a b)) hg
    rw [sgn_true]
    generalize a / Nat.gcd a b = k at h1
    exact decide_eq_true (by omega)
theorem good_parts {n : Bool} {s t : ByteArray} (h : GoodR n s t) : qn (fitQ n s t) = n ∧ qs (fitQ n s t) = s ∧ qt (fitQ n s t) = t := by
  rw [fit_good h]
  obtain ⟨h1, h2, h3, h4, h5⟩ := h
  have := mk_parts (n := n) (a := sval s) h3 h4
  rw [h5, Nat.div_one, Nat.div_one, h1, h2] at this
  exact this
theorem parts_good (q : Rat) : GoodR (qn q) (qs q) (qt q) := by
  unfold qs qt
  refine ⟨by rw [sval_natS], by rw [sval_natS], by rw [sval_natS]; exact q.den_nz, ?_, ?_⟩
  · rw [sval_natS]; intro h; unfold qn; exact decide_eq_false (by omega)
  · rw [sval_natS, sval_natS]; exact q.reduced
theorem fit_parts (q : Rat) : fitQ (qn q) (qs q) (qt q) = q := by
  rw [fit_good (parts_good q)]
  unfold qs qt
  rw [sval_natS, sval_natS, qn_sgn, Rat.mkRat_self]
theorem parts_zero : qn 0 = false ∧ qs 0 = natS 0 ∧ qt 0 = natS 1 := ⟨rfl, rfl, rfl⟩
theorem natS_inj' {a b : Nat} : natS a = natS b ↔ a = b := ⟨natS_inj, fun h => h ▸ rfl⟩
theorem natS_one : natS 1 = { data := #[1] } := by unfold natS; rw [natL_pos (by decide), natL_zero]; rfl
/-- the length of a number's longest part -/
def qz (q : Rat) : Nat := max (natL q.num.natAbs).length (natL q.den).length
theorem natL_len_one : (natL 1).length = 1 := by rw [natL_pos (by decide), natL_zero]; rfl
theorem qz_mk (a : Int) (b : Nat) : qz (mkRat a b) ≤ max (natL a.natAbs).length (max (natL b).length 1) := by
  unfold qz
  rw [Rat.num_mkRat, Rat.den_mkRat]
  by_cases h : b = 0
  · rw [if_pos h, if_pos h, h, natL_len_one]; simp [natL_zero]; omega
  · rw [if_neg h, if_neg h]
    have h1 : (a / ((Nat.gcd b a.natAbs : Nat) : Int)).natAbs ≤ a.natAbs := by
      have hd : ((Nat.gcd b a.natAbs : Nat) : Int) ∣ a := by
        have := Nat.gcd_dvd_right b a.natAbs
        exact Int.dvd_trans (Int.natCast_dvd_natCast.mpr this) (by rw [Int.natAbs_dvd]; exact Int.dvd_refl _)
      rw [Int.natAbs_ediv_of_dvd hd]
      exact Nat.div_le_self _ _
    have h2 := natL_len_mono h1
    have h3 := natL_len_mono (Nat.div_le_self b (Nat.gcd b a.natAbs))
    omega
theorem qz_pos (q : Rat) : 1 ≤ qz q := by
  unfold qz
  have h : (natL q.den).length ≠ 0 := fun h => q.den_nz (natL_nil.mp (List.length_eq_zero_iff.mp h))
  omega
theorem qz_zero : qz 0 = 1 := by unfold qz; show max (natL 0).length (natL 1).length = 1; rw [natL_zero, natL_len_one]; rfl
theorem qs_size (q : Rat) : (qs q).size ≤ qz q := by unfold qs; rw [natS_size]; exact Nat.le_max_left _ _
theorem qt_size (q : Rat) : (qt q).size ≤ qz q := by unfold qt; rw [natS_size]; exact Nat.le_max_right _ _
theorem qz_add (a b : Rat) : qz (a + b) ≤ qz a + qz b + 1 := by
  rw [Rat.add_def']
  refine Nat.le_trans (qz_mk _ _) ?_
  have h1 : (a.num * (b.den : Int) + b.num * (a.den : Int)).natAbs ≤ a.num.natAbs * b.den + b.num.natAbs * a.den := by
    refine Nat.le_trans (Int.natAbs_add_le _ _) ?_
    rw [Int.natAbs_mul, Int.natAbs_mul]
    exact Nat.le_refl _
  have h2 := natL_len_mono h1
  have h3 := natL_len_add (a.num.natAbs * b.den) (b.num.natAbs * a.den)
  have h4 := natL_len_mul a.num.natAbs b.den
  have h5 := natL_len_mul b.num.natAbs a.den
  have h6 := natL_len_mul a.den b.den
  unfold qz
  omega
theorem qz_mul (a b : Rat) : qz (a * b) ≤ qz a + qz b := by
  rw [Rat.mul_def']
  refine Nat.le_trans (qz_mk _ _) ?_
  have h4 := natL_len_mul a.num.natAbs b.num.natAbs
  have h6 := natL_len_mul a.den b.den
  rw [Int.natAbs_mul]
  have := qz_pos a
  unfold qz at *
  omega
theorem qz_neg (a : Rat) : qz (-a) = qz a := by unfold qz; rw [Rat.neg_num, Rat.neg_den, Int.natAbs_neg]
theorem inv_mk (a : Rat) : a⁻¹ = mkRat (sgn (qn a) a.den) a.num.natAbs := by
  rw [Rat.inv_def]
  have h := qn_sgn a
  generalize a.num = n at h
  generalize a.den = d
  cases n with
  | ofNat k =>
    have : qn a = false ∨ k = 0 := by
      cases hq : qn a with
      | false => exact .inl rfl
      | true => rw [hq, sgn_true] at h; simp only [Int.ofNat_eq_natCast] at h; omega
    show mkRat (d : Int) k = mkRat (sgn (qn a) d) (Int.natAbs (Int.ofNat k))
    rcases this with h | h
    · rw [h]; rfl
    · subst h; simp
  | negSucc k =>
    have : qn a = true := by
      cases hq : qn a with
      | true => rfl
      | false => rw [hq, sgn_false] at h; omega
    rw [this]
    show Rat.normalize (-(d : Int)) (k + 1) (Nat.succ_ne_zero k) = _
    rw [Rat.normalize_eq_mkRat]
    rfl
theorem div_mk (a b : Rat) : a / b = mkRat (sgn (qn a != qn b) (a.num.natAbs * b.den)) (a.den * b.num.natAbs) := by
  rw [Rat.div_def, inv_mk, ← Rat.mkRat_self a, Rat.mkRat_mul_mkRat, Rat.mkRat_self, ← sgn_mul, qn_sgn]
theorem qz_inv (a : Rat) : qz a⁻¹ ≤ qz a := by
  rw [inv_mk]
  refine Nat.le_trans (qz_mk _ _) ?_
  rw [sgn_abs]
  have := qz_pos a
  unfold qz at *
  omega
theorem qz_div (a b : Rat) : qz (a / b) ≤ qz a + qz b := by
  rw [Rat.div_def]
  have := qz_mul a b⁻¹
  have := qz_inv b
  omega
theorem qz_fit (n : Bool) (s t : ByteArray) : qz (fitQ n s t) ≤ max s.size (max t.size 1) := by
  by_cases h : GoodR n s t
  · rw [fit_good h]
    refine Nat.le_trans (qz_mk _ _) ?_
    rw [sgn_abs]
    obtain ⟨h1, h2, _⟩ := h
    have e1 := congrArg ByteArray.size h1
    have e2 := congrArg ByteArray.size h2
    rw [natS_size] at e1 e2
    omega
  · rw [fit_bad h, qz_zero]; omega
end Go.Proofs.YthmgcbpmfipfiaaDoor
