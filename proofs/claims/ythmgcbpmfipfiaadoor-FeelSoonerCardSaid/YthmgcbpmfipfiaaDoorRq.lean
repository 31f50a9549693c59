/- The contracts of package rat once more, over triples: each result is a letter with its value, its form and its size. Conditions: those typed. -/
import Derived.Test.YthmgcbpmfipfiaaDoorQs
import Derived.Test.YthmgcbpmfipfiaaDoorRatC
import Derived.Test.YthmgcbpmfipfiaaDoorRatJ
namespace Go.Proofs.YthmgcbpmfipfiaaDoor
open Go.RowKit Go.Gy
set_option linter.unusedVariables false
/-- at most N bytes in each part -/
def Q3.le (x : Q3) (N : Nat) : Prop := x.num.size ≤ N ∧ x.den.size ≤ N
/-- in lowest terms -/
def Q3.can (x : Q3) : Prop := x = toQ3 x.q
theorem Q3.le.more {x : Q3} {N M : Nat} (h : x.le N) (hM : N ≤ M) : x.le M := ⟨Nat.le_trans h.1 hM, Nat.le_trans h.2 hM⟩
theorem Q3.le.qz {x : Q3} {N : Nat} (h : x.le N) (h1 : 1 ≤ N) : qz x.q ≤ N := by
  have h2 := qz_fit x.neg x.num x.den
  obtain ⟨h3, h4⟩ := h
  unfold Q3.q
  omega
theorem toQ3_can (q : Rat) : (toQ3 q).can := by unfold Q3.can; rw [toQ3_q]
theorem toQ3_le {q : Rat} {N : Nat} (h : qz q ≤ N) : (toQ3 q).le N := ⟨Nat.le_trans (qs_size q) h, Nat.le_trans (qt_size q) h⟩
theorem Q3.can.eq {x y : Q3} (hx : x.can) (hy : y.can) (h : x.q = y.q) : x = y := by rw [hx, hy, h]
theorem Q3.can.iff {x y : Q3} (hx : x.can) (hy : y.can) : x = y ↔ x.q = y.q := ⟨fun h => by rw [h], hx.eq hy⟩
theorem Q3.can.qv {x : Q3} (hx : x.can) : QV x.q = .agg #[.bool x.neg, .string x.num, .string x.den] := by
  have h : x = toQ3 x.q := hx
  have h1 : x.neg = qn x.q := congrArg Q3.neg h
  have h2 : x.num = qs x.q := congrArg Q3.num h
  have h3 : x.den = qt x.q := congrArg Q3.den h
  unfold QV
  rw [← h1, ← h2, ← h3]
/-- a number as a triple -/
theorem tri (q : Rat) (N : Nat) (h : qz q ≤ N) : ∃ z : Q3, z.q = q ∧ z.can ∧ z.le N := ⟨toQ3 q, toQ3_q q, toQ3_can q, toQ3_le h⟩
theorem tabs (w : World) (hT : TabW w) {W : World} (hW : Below w.heap.size w W) : TabW W := TabW.below hT hW
theorem addR (w : World) (hT : TabW w) (x y : Q3) {N M : Nat} (hx : x.le N) (hy : y.le M) (hN : 1 ≤ N ∧ N ≤ 1099511627776 ∧ 1 ≤ M ∧ M ≤ 1099511627776 := by omega) :
    ∃ z : Q3, z.q = x.q + y.q ∧ z.can ∧ z.le (N + M + 1) ∧ Hid (∀ W, Below w.heap.size w W → Calls Tryd.prog 17 #[.agg #[.bool x.neg, .string x.num, .string x.den], .agg #[.bool y.neg, .string y.num, .string y.den]] W fun e w' => e = .returned (.agg #[.bool z.neg, .string z.num, .string z.den]) ∧ Below W.heap.size W w') := by
  have hqx := hx.qz hN.1
  have hqy := hy.qz hN.2.2.1
  obtain ⟨z, h1, h2, h3⟩ := tri (x.q + y.q) (N + M + 1) (Nat.le_trans (qz_add _ _) (by omega))
  refine ⟨z, h1, h2, h3, Lib.hid (fun W hW => ?_)⟩
  have h := addq_any W x.neg x.num x.den y.neg y.num y.den x.q y.q rfl rfl (by have := hx.1; omega) (by have := hx.2; omega) (by have := hy.1; omega) (by have := hy.2; omega) (tabs w hT hW)
  rw [← h1, h2.qv] at h
  exact h
theorem subR (w : World) (hT : TabW w) (x y : Q3) {N M : Nat} (hx : x.le N) (hy : y.le M) (hN : 1 ≤ N ∧ N ≤ 1099511627776 ∧ 1 ≤ M ∧ M ≤ 1099511627776 := by omega) :
    ∃ z : Q3, z.q = x.q - y.q ∧ z.can ∧ z.le (N + M + 1) ∧ Hid (∀ W, Below w.heap.size w W → Calls Tryd.prog 39 #[.agg #[.bool x.neg, .string x.num, .string x.den], .agg #[.bool y.neg, .string y.num, .string y.den]] W fun e w' => e = .returned (.agg #[.bool z.neg, .string z.num, .string z.den]) ∧ Below W.heap.size W w') := by
  have hqx := hx.qz hN.1
  have hqy := hy.qz hN.2.2.1
  obtain ⟨z, h1, h2, h3⟩ := tri (x.q - y.q) (N + M + 1) (by rw [Rat.sub_eq_add_neg]; exact Nat.le_trans (qz_add _ _) (by rw [qz_neg]; omega))
  refine ⟨z, h1, h2, h3, Lib.hid (fun W hW => ?_)⟩
  have h := subq_any W x.neg x.num x.den y.neg y.num y.den x.q y.q rfl rfl (by have := hx.1; omega) (by have := hx.2; omega) (by have := hy.1; omega) (by have := hy.2; omega) (tabs w hT hW)
  rw [← h1, h2.qv] at h
  exact h
theorem mulR (w : World) (hT : TabW w) (x y : Q3) {N M : Nat} (hx : x.le N) (hy : y.le M) (hN : 1 ≤ N ∧ N ≤ 1099511627776 ∧ 1 ≤ M ∧ M ≤ 1099511627776 := by omega) :
    ∃ z : Q3, z.q = x.q * y.q ∧ z.can ∧ z.le (N + M) ∧ Hid (∀ W, Below w.heap.size w W → Calls Tryd.prog 21 #[.agg #[.bool x.neg, .string x.num, .string x.den], .agg #[.bool y.neg, .string y.num, .string y.den]] W fun e w' => e = .returned (.agg #[.bool z.neg, .string z.num, .string z.den]) ∧ Below W.heap.size W w') := by
  have hqx := hx.qz hN.1
  have hqy := hy.qz hN.2.2.1
  obtain ⟨z, h1, h2, h3⟩ := tri (x.q * y.q) (N + M) (Nat.le_trans (qz_mul _ _) (by omega))
  refine ⟨z, h1, h2, h3, Lib.hid (fun W hW => ?_)⟩
  have h := mulq_any W x.neg x.num x.den y.neg y.num y.den x.q y.q rfl rfl (by have := hx.1; omega) (by have := hx.2; omega) (by have := hy.1; omega) (by have := hy.2; omega) (tabs w hT hW)
  rw [← h1, h2.qv] at h
  exact h
theorem divR (w : World) (hT : TabW w) (x y : Q3) {N M : Nat} (hx : x.le N) (hy : y.le M) (h0 : y.q ≠ 0) (hN : 1 ≤ N ∧ N ≤ 1099511627776 ∧ 1 ≤ M ∧ M ≤ 1099511627776 := by omega) :
    ∃ z : Q3, z.q = x.q / y.q ∧ z.can ∧ z.le (N + M) ∧ Hid (∀ W, Below w.heap.size w W → Calls Tryd.prog 76 #[.agg #[.bool x.neg, .string x.num, .string x.den], .agg #[.bool y.neg, .string y.num, .string y.den]] W fun e w' => e = .returned (.tuple #[.agg #[.bool z.neg, .string z.num, .string z.den], .int .i64 0]) ∧ Below W.heap.size W w') := by
  have hqx := hx.qz hN.1
  have hqy := hy.qz hN.2.2.1
  obtain ⟨z, h1, h2, h3⟩ := tri (x.q / y.q) (N + M) (Nat.le_trans (qz_div _ _) (by omega))
  refine ⟨z, h1, h2, h3, Lib.hid (fun W hW => ?_)⟩
  have h := divq_any W x.neg x.num x.den y.neg y.num y.den x.q y.q rfl rfl (by have := hx.1; omega) (by have := hx.2; omega) (by have := hy.1; omega) (by have := hy.2; omega) (tabs w hT hW)
  rw [show divV x.q y.q = QV (x.q / y.q) from if_neg h0, show divE y.q = 0 from if_neg h0, ← h1, h2.qv] at h
  exact h
theorem negR (w : World) (hT : TabW w) (x : Q3) {N : Nat} (hx : x.le N) (hN : 1 ≤ N ∧ N ≤ 8796093022208 := by omega) :
    ∃ z : Q3, z.q = -x.q ∧ z.can ∧ z.le N ∧ Hid (∀ W, Below w.heap.size w W → Calls Tryd.prog 38 #[.agg #[.bool x.neg, .string x.num, .string x.den]] W fun e w' => e = .returned (.agg #[.bool z.neg, .string z.num, .string z.den]) ∧ Below W.heap.size W w') := by
  have hqx := hx.qz hN.1
  obtain ⟨z, h1, h2, h3⟩ := tri (-x.q) N (by rw [qz_neg]; omega)
  refine ⟨z, h1, h2, h3, Lib.hid (fun W hW => ?_)⟩
  have h := negq_any W x.neg x.num x.den x.q rfl (by have := hx.1; omega) (by have := hx.2; omega) (tabs w hT hW)
  rw [← h1, h2.qv] at h
  exact h
theorem absR (w : World) (hT : TabW w) (x : Q3) {N : Nat} (hx : x.le N) (hN : 1 ≤ N ∧ N ≤ 8796093022208 := by omega) :
    ∃ z : Q3, z.q = absQ x.q ∧ z.can ∧ z.le N ∧ Hid (∀ W, Below w.heap.size w W → Calls Tryd.prog 18 #[.agg #[.bool x.neg, .string x.num, .string x.den]] W fun e w' => e = .returned (.agg #[.bool z.neg, .string z.num, .string z.den]) ∧ Below W.heap.size W w') := by
  have hqx := hx.qz hN.1
  obtain ⟨z, h1, h2, h3⟩ := tri (absQ x.q) N (by unfold absQ; split; (rw [qz_neg]; omega); omega)
  refine ⟨z, h1, h2, h3, Lib.hid (fun W hW => ?_)⟩
  have h := absq_any W x.neg x.num x.den x.q rfl (by have := hx.1; omega) (by have := hx.2; omega) (tabs w hT hW)
  rw [← h1, h2.qv] at h
  exact h
theorem minR (w : World) (hT : TabW w) (x y : Q3) {N M : Nat} (hx : x.le N) (hy : y.le M) (hN : 1 ≤ N ∧ N ≤ 1099511627776 ∧ 1 ≤ M ∧ M ≤ 1099511627776 := by omega) :
    ∃ z : Q3, z.q = minQ x.q y.q ∧ z.can ∧ z.le (max N M) ∧ Hid (∀ W, Below w.heap.size w W → Calls Tryd.prog 28 #[.agg #[.bool x.neg, .string x.num, .string x.den], .agg #[.bool y.neg, .string y.num, .string y.den]] W fun e w' => e = .returned (.agg #[.bool z.neg, .string z.num, .string z.den]) ∧ Below W.heap.size W w') := by
  have hqx := hx.qz hN.1
  have hqy := hy.qz hN.2.2.1
  obtain ⟨z, h1, h2, h3⟩ := tri (minQ x.q y.q) (max N M) (by unfold minQ; split <;> omega)
  refine ⟨z, h1, h2, h3, Lib.hid (fun W hW => ?_)⟩
  have h := minq_any W x.neg x.num x.den y.neg y.num y.den x.q y.q rfl rfl (by have := hx.1; omega) (by have := hx.2; omega) (by have := hy.1; omega) (by have := hy.2; omega) (tabs w hT hW)
  rw [← h1, h2.qv] at h
  exact h
theorem maxR (w : World) (hT : TabW w) (x y : Q3) {N M : Nat} (hx : x.le N) (hy : y.le M) (hN : 1 ≤ N ∧ N ≤ 1099511627776 ∧ 1 ≤ M ∧ M ≤ 1099511627776 := by omega) :
    ∃ z : Q3, z.q = maxQ x.q y.q ∧ z.can ∧ z.le (max N M) ∧ Hid (∀ W, Below w.heap.size w W → Calls Tryd.prog 29 #[.agg #[.bool x.neg, .string x.num, .string x.den], .agg #[.bool y.neg, .string y.num, .string y.den]] W fun e w' => e = .returned (.agg #[.bool z.neg, .string z.num, .string z.den]) ∧ Below W.heap.size W w') := by
  have hqx := hx.qz hN.1
  have hqy := hy.qz hN.2.2.1
  obtain ⟨z, h1, h2, h3⟩ := tri (maxQ x.q y.q) (max N M) (by unfold maxQ; split <;> omega)
  refine ⟨z, h1, h2, h3, Lib.hid (fun W hW => ?_)⟩
  have h := maxq_any W x.neg x.num x.den y.neg y.num y.den x.q y.q rfl rfl (by have := hx.1; omega) (by have := hx.2; omega) (by have := hy.1; omega) (by have := hy.2; omega) (tabs w hT hW)
  rw [← h1, h2.qv] at h
  exact h
theorem cmpR (w : World) (hT : TabW w) (x y : Q3) {N M : Nat} (hx : x.le N) (hy : y.le M) (hN : N ≤ 1099511627776 ∧ M ≤ 1099511627776 := by omega) :
    ∃ c : Int, (-1 ≤ c ∧ c ≤ 1) ∧ (0 < c ↔ y.q < x.q) ∧ (c < 0 ↔ x.q < y.q) ∧ Hid (∀ W, Below w.heap.size w W → Calls Tryd.prog 26 #[.agg #[.bool x.neg, .string x.num, .string x.den], .agg #[.bool y.neg, .string y.num, .string y.den]] W fun e w' => e = .returned (.int .i64 c) ∧ Below W.heap.size W w') := by
  refine ⟨cmpQ x.q y.q, cmpQ_range _ _, ?_, ?_, Lib.hid (fun W hW => ?_)⟩
  · have := cmpQ_le x.q y.q
    constructor
    · intro h; exact Decidable.by_contra fun h2 => by have := this.mpr h2; omega
    · intro h; exact Decidable.by_contra fun h2 => this.mp (by omega) h
  · have := cmpQ_ge x.q y.q
    constructor
    · intro h; exact Decidable.by_contra fun h2 => by have := this.mpr h2; omega
    · intro h; exact Decidable.by_contra fun h2 => this.mp (by omega) h
  · exact cmpq_any W x.neg x.num x.den y.neg y.num y.den x.q y.q rfl rfl (by have := hx.1; omega) (by have := hx.2; omega) (by have := hy.1; omega) (by have := hy.2; omega) (tabs w hT hW)
theorem signR (w : World) (hT : TabW w) (x : Q3) {N : Nat} (hx : x.le N) (hN : N ≤ 8796093022208 := by omega) :
    ∃ c : Int, (-1 ≤ c ∧ c ≤ 1) ∧ (0 < c ↔ 0 < x.q) ∧ (c < 0 ↔ x.q < 0) ∧ Hid (∀ W, Below w.heap.size w W → Calls Tryd.prog 35 #[.agg #[.bool x.neg, .string x.num, .string x.den]] W fun e w' => e = .returned (.int .i64 c) ∧ Below W.heap.size W w') := by
  refine ⟨signQ x.q, ?_, ?_, ?_, Lib.hid (fun W hW => ?_)⟩
  · unfold signQ; split
    · omega
    · split <;> omega
  · rw [← signQ_pos]; omega
  · unfold signQ
    split
    · rename_i h; rw [h]; exact ⟨fun h => absurd h (by decide), fun h => absurd h (by decide)⟩
    · split
      · rename_i h; exact ⟨fun _ => h, fun _ => by decide⟩
      · rename_i h; exact ⟨fun h => absurd h (by decide), fun h2 => absurd h2 h⟩
  · exact signq_any W x.neg x.num x.den x.q rfl (by have := hx.1; omega) (by have := hx.2; omega) (tabs w hT hW)
theorem ofR (w : World) (hT : TabW w) (n : Int) (hn : -9223372036854775808 ≤ n ∧ n ≤ 9223372036854775807 := by omega) :
    ∃ z : Q3, z.q = (n : Rat) ∧ z.can ∧ z.le 8 ∧ Hid (∀ W, Below w.heap.size w W → Calls Tryd.prog 25 #[.int .i64 n] W fun e w' => e = .returned (.agg #[.bool z.neg, .string z.num, .string z.den]) ∧ Below W.heap.size W w') := by
  obtain ⟨z, h1, h2, h3⟩ := tri (n : Rat) 8 (qz_int n hn)
  refine ⟨z, h1, h2, h3, Lib.hid (fun W hW => ?_)⟩
  have h := ofint_any W n hn (tabs w hT hW)
  rw [← h1, h2.qv] at h
  exact h
theorem makeR (w : World) (hT : TabW w) (m n : Int) (h0 : (n : Rat) ≠ 0) (hm : -9223372036854775808 ≤ m ∧ m ≤ 9223372036854775807 := by omega) (hn : -9223372036854775808 ≤ n ∧ n ≤ 9223372036854775807 := by omega) :
    ∃ z : Q3, z.q = (m : Rat) / (n : Rat) ∧ z.can ∧ z.le 16 ∧ Hid (∀ W, Below w.heap.size w W → Calls Tryd.prog 44 #[.int .i64 m, .int .i64 n] W fun e w' => e = .returned (.tuple #[.agg #[.bool z.neg, .string z.num, .string z.den], .int .i64 0]) ∧ Below W.heap.size W w') := by
  obtain ⟨z, h1, h2, h3⟩ := tri ((m : Rat) / (n : Rat)) 16 (Nat.le_trans (qz_div _ _) (by have := qz_int m hm; have := qz_int n hn; omega))
  refine ⟨z, h1, h2, h3, Lib.hid (fun W hW => ?_)⟩
  have h := makeq_any W m n hm hn (tabs w hT hW)
  rw [show divV (m : Rat) (n : Rat) = QV ((m : Rat) / (n : Rat)) from if_neg h0, show divE (n : Rat) = 0 from if_neg h0, ← h1, h2.qv] at h
  exact h
theorem floorR (w : World) (hT : TabW w) (x : Q3) {N : Nat} (hx : x.le N) (hN : N ≤ 1099511627776 := by omega) :
    ∃ f e : Int, f = floorN x.q ∧ e = floorE x.q ∧ Hid (∀ W, Below w.heap.size w W → Calls Tryd.prog 66 #[.agg #[.bool x.neg, .string x.num, .string x.den]] W fun r w' => r = .returned (.tuple #[.int .i64 f, .int .i64 e]) ∧ Below W.heap.size W w') :=
  ⟨_, _, rfl, rfl, Lib.hid fun W hW => floorq_any W x.neg x.num x.den x.q rfl (by have := hx.1; omega) (by have := hx.2; omega) (tabs w hT hW)⟩
theorem halfR (w : World) (hT : TabW w) : ∃ z : Q3, z.q = 1 / 2 ∧ z.can ∧ z.le 16 ∧ Hid (∀ W, Below w.heap.size w W → Calls Tryd.prog 20 #[] W fun e w' => e = .returned (.agg #[.bool z.neg, .string z.num, .string z.den]) ∧ Below W.heap.size W w') := by
  have hz : qz (((1 : Int) : Rat) / ((2 : Int) : Rat)) ≤ 16 := Nat.le_trans (qz_div _ _) (by have := qz_int 1 (by decide); have := qz_int 2 (by decide); omega)
  obtain ⟨z, h1, h2, h3⟩ := tri (1 / 2) 16 hz
  refine ⟨z, h1, h2, h3, Lib.hid (fun W hW => ?_)⟩
  have h := half_any W (tabs w hT hW)
  rw [show halfQ = 1 / 2 from rfl, ← h1, h2.qv] at h
  exact h
theorem ratM_small (x : Int) : qz (ratM x) ≤ 1 := by
  unfold ratM
  obtain ⟨k, hk⟩ : ∃ k : Nat, x % 6 = k := ⟨(x % 6).toNat, by omega⟩
  have h6 : k < 6 := by omega
  have hd : denM x ≤ 8 ∧ 1 ≤ denM x := by
    unfold denM
    rw [hk, Int.toNat_natCast]
    rcases k with _ | _ | _ | _ | _ | _ | k
    all_goals first | exact ⟨by decide, by decide⟩ | omega
  have hn : (numM x).natAbs ≤ 64 := by
    unfold numM
    obtain ⟨d, hd'⟩ : ∃ d, d = denM x := ⟨_, rfl⟩
    rw [← hd'] at hd ⊢
    have h1 := Int.emod_nonneg (x.tdiv 6) (b := 16 * (d : Int) + 1) (by omega)
    have h2 := Int.emod_lt_of_pos (x.tdiv 6) (b := 16 * (d : Int) + 1) (by omega)
    omega
  refine Nat.le_trans (qz_mk _ _) ?_
  have h1 := (natL_len_le (numM x).natAbs 1).mpr (by omega)
  have h2 := (natL_len_le (denM x) 1).mpr (by omega)
  omega
theorem ratMR (w : World) (x : Int) (hx : -9223372036854775808 ≤ x ∧ x ≤ 9223372036854775807 := by omega) :
    ∃ z : Q3, z.q = ratM x ∧ z.can ∧ z.le 1 ∧ Hid (∀ W, Calls Tryd.prog 19 #[.int .i64 x] W fun e w' => e = .returned (.agg #[.bool z.neg, .string z.num, .string z.den]) ∧ Below W.heap.size W w') := by
  obtain ⟨z, h1, h2, h3⟩ := tri (ratM x) 1 (ratM_small x)
  refine ⟨z, h1, h2, h3, Lib.hid (fun W => ?_)⟩
  have h := ratM_any W x hx
  rw [← h1, h2.qv] at h
  exact h
end Go.Proofs.YthmgcbpmfipfiaaDoor
