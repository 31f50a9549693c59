/- Braking tick by tick: the plain law. Conditions: those typed. -/
import Derived.Test.YtnnbnecpcppkdaaDoorStopB
namespace Go.Proofs.YtnnbnecpcppkdaaDoor
set_option linter.unusedVariables false
/-- one tick of braking -/
def stepV (b v : Rat) : Rat := if b < v then v - b else if b < -v then v + b else 0
def pathV (b v : Rat) : Nat → Rat
  | 0 => v
  | k + 1 => stepV b (pathV b v k)
def pathQ (b q v : Rat) : Nat → Rat
  | 0 => q
  | k + 1 => pathQ b q v k + pathV b v (k + 1)
def pathL (b q v : Rat) (m : Nat) : List Rat := (List.range (m + 1)).map (pathQ b q v)
theorem castS (k : Nat) : (((k + 1 : Nat) : Int) : Rat) = ((k : Int) : Rat) + 1 := by
  rw [show ((k + 1 : Nat) : Int) = (k : Int) + 1 by omega, Rat.intCast_add]; rfl
theorem absQ_cases (v : Rat) : (v < 0 ∧ absQ v = -v) ∨ (0 ≤ v ∧ absQ v = v) := by unfold absQ; split <;> grind
/-- the change after k ticks -/
theorem pathV_eq {b v : Rat} (hb : 0 < b) (k : Nat) : pathV b v k = if absQ v ≤ ((k : Int) : Rat) * b then 0 else if v < 0 then v + ((k : Int) : Rat) * b else v - ((k : Int) : Rat) * b := by
  induction k with
  | zero =>
    have h0 : (((0 : Nat) : Int) : Rat) = 0 := rfl
    rw [h0, Rat.zero_mul]
    have h2 := absQ_cases v
    show v = _
    split
    · grind
    · split <;> grind
  | succ k ih =>
    have h2 := absQ_cases v
    have hs : (((k + 1 : Nat) : Int) : Rat) * b = ((k : Int) : Rat) * b + b := by rw [castS, Rat.add_mul, Rat.one_mul]
    show stepV b (pathV b v k) = _
    rw [ih, hs]
    generalize ((k : Int) : Rat) * b = t
    unfold stepV
    split
    · have : absQ v ≤ t + b := by grind
      rw [if_pos this]
      grind
    · split <;> grind
theorem pathV_zero {b v : Rat} (hb : 0 < b) (k : Nat) : pathV b v k = 0 ↔ absQ v ≤ ((k : Int) : Rat) * b := by
  rw [pathV_eq hb k]
  have h2 := absQ_cases v
  constructor
  · intro h
    split at h
    · assumption
    · split at h <;> grind
  · intro h
    rw [if_pos h]
theorem slow_path {b v : Rat} (hb : 0 < b) : slowQ b v = pathV b v 1 := by
  show _ = stepV b v
  have h2 := absQ_cases v
  unfold slowQ stepV
  split
  · split
    · grind
    · split <;> grind
  · split
    · split <;> grind
    · split
      · grind
      · split <;> grind
def triN : Nat → Nat
  | 0 => 0
  | k + 1 => triN k + (k + 1)
theorem triN_two (k : Nat) : 2 * triN k = k * (k + 1) := by
  induction k with
  | zero => rfl
  | succ k ih => unfold triN; rw [Nat.mul_add, ih]; grind
theorem castT (k : Nat) : (((triN (k + 1) : Nat) : Int) : Rat) = ((triN k : Int) : Rat) + ((k : Int) : Rat) + 1 := by
  show (((triN k + (k + 1) : Nat) : Int) : Rat) = _
  rw [show ((triN k + (k + 1) : Nat) : Int) = (triN k : Int) + (k : Int) + 1 by omega, Rat.intCast_add, Rat.intCast_add]; rfl
theorem lt_of_add {t b a : Rat} (hb : 0 < b) (h : t + b < a) : t < a := by grind
theorem pathQ_eq {b q v : Rat} (hb : 0 < b) (k : Nat) (hk : k = 0 ∨ ((k : Int) : Rat) * b < absQ v) : pathQ b q v k = q + (if v < 0 then -(((k : Int) : Rat) * absQ v - b * ((triN k : Int) : Rat)) else ((k : Int) : Rat) * absQ v - b * ((triN k : Int) : Rat)) := by
  induction k with
  | zero =>
    have h0 : (((0 : Nat) : Int) : Rat) = 0 := rfl
    have h1 : ((triN 0 : Int) : Rat) = 0 := rfl
    rw [h0, h1]
    show q = _
    split <;> grind
  | succ k ih =>
    have hs : (((k + 1 : Nat) : Int) : Rat) * b = ((k : Int) : Rat) * b + b := by rw [castS, Rat.add_mul, Rat.one_mul]
    have hk1 : (((k + 1 : Nat) : Int) : Rat) * b < absQ v := hk.resolve_left (by omega)
    show pathQ b q v k + pathV b v (k + 1) = _
    have hk2 := hk1
    rw [hs] at hk2
    rw [ih (.inr (lt_of_add hb hk2)), pathV_eq hb, if_neg (Rat.not_le.mpr hk1), castT, hs, castS]
    have h2 := absQ_cases v
    clear ih hk hk1 hk2 hs
    generalize ((k : Int) : Rat) = x
    generalize ((triN k : Int) : Rat) = y
    generalize absQ v = a at h2 ⊢
    by_cases hv : v < 0
    · rw [if_pos hv, if_pos hv, if_pos hv]
      obtain rfl : a = -v := by grind
      grind
    · rw [if_neg hv, if_neg hv, if_neg hv]
      obtain rfl : a = v := by grind
      grind
def PathEnd (b v : Rat) (m : Nat) : Prop := m ≤ 2000 ∧ (∀ k, k < m → pathV b v k ≠ 0) ∧ (m < 2000 → pathV b v m = 0)
theorem ticks_ok {b v : Rat} {n : Int} (h : TicksIs b v n 0) : 0 < b ∧ absQ v ≤ 2000 * b ∧ 0 ≤ n ∧ n ≤ 2000 ∧ absQ v ≤ n * b ∧ ((n : Rat) - 1) * b < absQ v := by
  rcases h with ⟨_, _, h⟩ | ⟨_, _, _, h⟩ | ⟨h1, h2, _, h3, h4, h5, h6⟩
  · exact absurd h (by decide)
  · exact absurd h (by decide)
  · exact ⟨h1, h2, h3, h4, h5, h6⟩
theorem mul_mono {b : Rat} (hb : 0 < b) {x y : Int} (h : x ≤ y) : (x : Rat) * b ≤ (y : Rat) * b := Rat.mul_le_mul_of_nonneg_right (Rat.intCast_le_intCast.mpr h) (Rat.le_of_lt hb)
theorem path_ticks {b v : Rat} {n : Int} {m : Nat} (h : TicksIs b v n 0) (hm : PathEnd b v m) : n = m ∧ pathV b v m = 0 := by
  obtain ⟨hb, _, h0, h1, h2, h3⟩ := ticks_ok h
  obtain ⟨N, rfl⟩ : ∃ N : Nat, n = N := ⟨n.toNat, by omega⟩
  have hN : pathV b v N = 0 := (pathV_zero hb N).mpr h2
  obtain ⟨m1, m2, m3⟩ := hm
  have hle : m ≤ N := Nat.not_lt.mp fun hlt => m2 N hlt hN
  have hge : N ≤ m := Nat.not_lt.mp fun hlt => by
    have hz := (pathV_zero hb m).mp (m3 (by omega))
    have := mul_mono hb (show (m : Int) ≤ (N : Int) - 1 by omega)
    rw [Rat.intCast_sub] at this
    have e1 : ((1 : Int) : Rat) = 1 := rfl
    rw [e1] at this
    grind
  obtain rfl : m = N := by omega
  exact ⟨rfl, hN⟩
theorem path_far {b v : Rat} {m : Nat} (hb : 0 < b) (h : 2000 * b < absQ v) (hm : PathEnd b v m) : pathV b v m ≠ 0 := by
  intro hz
  have h1 := (pathV_zero hb m).mp hz
  have h2 := mul_mono hb (show (m : Int) ≤ 2000 by have := hm.1; omega)
  have e1 : ((2000 : Int) : Rat) = 2000 := rfl
  rw [e1] at h2
  grind
theorem wayQ_path {b q v : Rat} {n : Int} {m : Nat} (h : TicksIs b v n 0) (hm : n = m) : pathQ b q v m = q + wayQ b v n := by
  subst hm
  obtain ⟨hb, _, h0, h1, h2, h3⟩ := ticks_ok h
  unfold wayQ
  cases m with
  | zero => rw [if_pos (by decide)]; show q = q + 0; grind
  | succ k =>
    have hz : pathV b v (k + 1) = 0 := (pathV_zero hb (k + 1)).mpr h2
    have hq : pathQ b q v (k + 1) = pathQ b q v k := by show pathQ b q v k + pathV b v (k + 1) = _; rw [hz]; grind
    rw [castS] at h3
    have hk : ((k : Int) : Rat) * b < absQ v := by
      have : ((k : Int) : Rat) + 1 - 1 = ((k : Int) : Rat) := by grind
      rwa [this] at h3
    rw [hq, pathQ_eq hb k (.inr hk)]
    cases k with
    | zero =>
      rw [if_pos (show ((0 + 1 : Nat) : Int) < 2 by decide)]
      have h0 : (((0 : Nat) : Int) : Rat) = 0 := rfl
      have h1 : ((triN 0 : Int) : Rat) = 0 := rfl
      rw [h0, h1]
      split <;> grind
    | succ j =>
      rw [if_neg (show ¬ ((j + 1 + 1 : Nat) : Int) < 2 by omega)]
      have e1 : ((j + 1 + 1 : Nat) : Int) - 1 = ((j + 1 : Nat) : Int) := by omega
      have e2 : ((j + 1 + 1 : Nat) : Int) * (((j + 1 + 1 : Nat) : Int) - 1) / 2 = (triN (j + 1) : Int) := by
        rw [e1]
        have := triN_two (j + 1)
        have h4 : ((j + 1 + 1 : Nat) : Int) * ((j + 1 : Nat) : Int) = 2 * (triN (j + 1) : Int) := by
          rw [← Int.natCast_mul, show (j + 1 + 1) * (j + 1) = (j + 1) * (j + 1 + 1) from Nat.mul_comm _ _, ← this]; simp
        omega
      rw [e2, e1]
theorem qz_zero8 : qz 0 ≤ 8 := qz_int 0 (by decide)
theorem qz_sub (x y : Rat) : qz (x - y) ≤ qz x + qz y + 1 := by rw [Rat.sub_eq_add_neg]; have := qz_add x (-y); rw [qz_neg] at this; exact this
theorem pathV_qz {b v : Rat} (hb : 0 < b) (k : Nat) (hk : k ≤ 2000) : qz (pathV b v k) ≤ qz v + qz b + 9 := by
  rw [pathV_eq hb k]
  have h1 := qz_mul ((k : Int) : Rat) b
  have h2 := qz_int (k : Int) (by omega)
  have h3 := qz_zero8
  split
  · omega
  · split
    · have := qz_add v (((k : Int) : Rat) * b); omega
    · have := qz_sub v (((k : Int) : Rat) * b); omega
theorem pathL_succ (b q v : Rat) (m : Nat) : pathL b q v (m + 1) = pathL b q v m ++ [pathQ b q v (m + 1)] := by
  unfold pathL; rw [List.range_succ, List.map_append]; rfl
theorem pathL_length (b q v : Rat) (m : Nat) : (pathL b q v m).length = m + 1 := by unfold pathL; rw [List.length_map, List.length_range]
theorem pathL_get (b q v : Rat) {m k : Nat} (h : k ≤ m) : (pathL b q v m)[k]? = some (pathQ b q v k) := by
  unfold pathL; rw [List.getElem?_map, List.getElem?_range (by omega)]; rfl
end Go.Proofs.YtnnbnecpcppkdaaDoor
