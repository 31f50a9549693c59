/- What feel.Touch reckons, plain. Conditions: those typed. -/
import Derived.Test.YthmgcbpmfipfiaaDoorMakeQ
namespace Go.Proofs.YthmgcbpmfipfiaaDoor
set_option linter.unusedVariables false
def hitT (lo hi : Rat) (on : Bool) (x : Rat) : Bool := if on then decide (absQ x < lo) else decide (hi < absQ x)
def stepT (lo hi : Rat) (hold : Int) (s : Bool × Int) (x : Rat) : Bool × Int :=
  if hitT lo hi s.1 x then (if s.2 + 1 = hold then (!s.1, 0) else (s.1, s.2 + 1)) else (s.1, 0)
/-- the state behind k readings -/
def stT (lo hi : Rat) (hold : Int) (l : List Rat) (k : Nat) : Bool × Int := (l.take k).foldl (stepT lo hi hold) (false, 0)
theorem stT_zero (lo hi : Rat) (hold : Int) (l : List Rat) : stT lo hi hold l 0 = (false, 0) := rfl
theorem stT_succ {lo hi : Rat} {hold : Int} {l : List Rat} {k : Nat} {x : Rat} (hx : l[k]? = some x) : stT lo hi hold l (k + 1) = stepT lo hi hold (stT lo hi hold l k) x := by
  unfold stT
  rw [List.take_add_one, hx, List.foldl_append]
  rfl
theorem stepT_miss {lo hi : Rat} {hold : Int} {s : Bool × Int} {x : Rat} (h : hitT lo hi s.1 x = false) : stepT lo hi hold s x = (s.1, 0) := by
  unfold stepT; rw [h]; rfl
theorem stepT_hit {lo hi : Rat} {hold : Int} {s : Bool × Int} {x : Rat} (h : hitT lo hi s.1 x = true) (hm : s.2 + 1 ≠ hold) : stepT lo hi hold s x = (s.1, s.2 + 1) := by
  unfold stepT; rw [if_pos h, if_neg hm]
theorem stepT_flip {lo hi : Rat} {hold : Int} {s : Bool × Int} {x : Rat} (h : hitT lo hi s.1 x = true) (hm : s.2 + 1 = hold) : stepT lo hi hold s x = (!s.1, 0) := by
  unfold stepT; rw [if_pos h, if_pos hm]
/-- the counter stays in its bounds -/
theorem stT_range (lo hi : Rat) {hold : Int} (hh : 1 ≤ hold) (l : List Rat) (k : Nat) : 0 ≤ (stT lo hi hold l k).2 ∧ (stT lo hi hold l k).2 < hold ∧ (stT lo hi hold l k).2 ≤ k := by
  induction k with
  | zero => rw [stT_zero]; exact ⟨Int.le_refl _, by simp only; omega, by simp⟩
  | succ k ih =>
    rcases Nat.lt_or_ge k l.length with hk | hk
    · obtain ⟨x, hx⟩ : ∃ x, l[k]? = some x := ⟨_, List.getElem?_eq_getElem hk⟩
      rw [stT_succ hx]
      cases h : hitT lo hi (stT lo hi hold l k).1 x with
      | false => rw [stepT_miss h]; exact ⟨Int.le_refl _, by simp only; omega, by simp only; omega⟩
      | true =>
        by_cases hm : (stT lo hi hold l k).2 + 1 = hold
        · rw [stepT_flip h hm]; exact ⟨Int.le_refl _, by simp only; omega, by simp only; omega⟩
        · rw [stepT_hit h hm]; exact ⟨by simp only; omega, by simp only; omega, by simp only; omega⟩
    · have e : stT lo hi hold l (k + 1) = stT lo hi hold l k := by unfold stT; rw [List.take_of_length_le (by omega), List.take_of_length_le hk]
      rw [e]
      omega
/-- what Touch says of k readings -/
def outT (lo hi : Rat) (hold : Int) (l : List Rat) (k : Nat) : List Bool := (List.range k).map fun j => (stT lo hi hold l (j + 1)).1
theorem outT_succ (lo hi : Rat) (hold : Int) (l : List Rat) (k : Nat) : outT lo hi hold l (k + 1) = outT lo hi hold l k ++ [(stT lo hi hold l (k + 1)).1] := by
  unfold outT; rw [List.range_succ, List.map_append]; rfl
theorem outT_get {lo hi : Rat} {hold : Int} {l : List Rat} {k i : Nat} (h : i < k) : (outT lo hi hold l k)[i]? = some (stT lo hi hold l (i + 1)).1 := by
  unfold outT; rw [List.getElem?_map, List.getElem?_range h]; rfl
/-- the last many readings were hits -/
theorem runT {lo hi : Rat} {hold : Int} (hh : 1 ≤ hold) {l : List Rat} {k : Nat} (hk : k ≤ l.length) : ∀ j : Nat, (k : Int) - (stT lo hi hold l k).2 ≤ j → j < k → ∃ x, l[j]? = some x ∧ hitT lo hi (stT lo hi hold l k).1 x = true := by
  induction k with
  | zero => intro j _ h; omega
  | succ k ih =>
    obtain ⟨x, hx⟩ : ∃ x, l[k]? = some x := ⟨_, List.getElem?_eq_getElem (by omega)⟩
    rw [stT_succ hx]
    cases h : hitT lo hi (stT lo hi hold l k).1 x with
    | false => rw [stepT_miss h]; intro j h1 h2; simp only at h1; omega
    | true =>
      by_cases hm : (stT lo hi hold l k).2 + 1 = hold
      · rw [stepT_flip h hm]; intro j h1 h2; simp only at h1; omega
      · rw [stepT_hit h hm]
        intro j h1 h2
        simp only at h1 ⊢
        rcases Nat.lt_or_ge j k with h3 | h3
        · exact ih (by omega) j (by omega) h3
        · rw [show j = k by omega]; exact ⟨x, hx, h⟩
/-- where it changes, so many readings before were hits -/
theorem flipT {lo hi : Rat} {hold : Int} (hh : 1 ≤ hold) {l : List Rat} {k : Nat} (hk : k < l.length) (hf : (stT lo hi hold l (k + 1)).1 ≠ (stT lo hi hold l k).1) :
    (stT lo hi hold l k).2 + 1 = hold ∧ (stT lo hi hold l (k + 1)).2 = 0 ∧ ∀ j : Nat, (k : Int) + 1 - hold ≤ j → j ≤ k → ∃ x, l[j]? = some x ∧ hitT lo hi (stT lo hi hold l k).1 x = true := by
  obtain ⟨x, hx⟩ : ∃ x, l[k]? = some x := ⟨_, List.getElem?_eq_getElem (by omega)⟩
  rw [stT_succ hx] at hf ⊢
  cases h : hitT lo hi (stT lo hi hold l k).1 x with
  | false => rw [stepT_miss h] at hf; exact absurd rfl hf
  | true =>
    by_cases hm : (stT lo hi hold l k).2 + 1 = hold
    · rw [stepT_flip h hm]
      refine ⟨hm, rfl, fun j h1 h2 => ?_⟩
      rcases Nat.lt_or_ge j k with h3 | h3
      · exact runT hh (by omega) j (by omega) h3
      · rw [show j = k by omega]; exact ⟨x, hx, h⟩
    · rw [stepT_hit h hm] at hf; exact absurd rfl hf
theorem sameT {lo hi : Rat} {hold : Int} {l : List Rat} {k : Nat} (hk : k < l.length) : (stT lo hi hold l (k + 1)).2 ≤ (stT lo hi hold l k).2 + 1 ∨ (stT lo hi hold l (k + 1)).2 = 0 := by
  obtain ⟨x, hx⟩ : ∃ x, l[k]? = some x := ⟨_, List.getElem?_eq_getElem hk⟩
  rw [stT_succ hx]
  unfold stepT
  split
  · split
    · exact .inr rfl
    · exact .inl (Int.le_refl _)
  · exact .inr rfl
end Go.Proofs.YthmgcbpmfipfiaaDoor
