/- A mean lies between the least and the greatest of its readings, and that of equal ones is the same: plain. Conditions: those typed. -/
import Derived.Test.YtnnbnecpcppkdaaDoorMeanPlain
namespace Go.Proofs.YtnnbnecpcppkdaaDoor
set_option linter.unusedVariables false
theorem sumL_ge {a : Rat} : ∀ l : List Rat, (∀ x ∈ l, a ≤ x) → a * ((l.length : Int) : Rat) ≤ sumL l
  | [], _ => by rw [sumL_nil]; simp [Rat.mul_zero]
  | x :: l, h => by
    have h1 := sumL_ge l (fun y hy => h y (List.mem_cons_of_mem _ hy))
    have h2 := h x (by simp)
    have h3 : (((x :: l).length : Int) : Rat) = ((l.length : Int) : Rat) + 1 := by rw [List.length_cons]; push_cast; rfl
    rw [sumL_cons, h3, Rat.mul_add, Rat.mul_one]
    grind
theorem sumL_le {a : Rat} : ∀ l : List Rat, (∀ x ∈ l, x ≤ a) → sumL l ≤ a * ((l.length : Int) : Rat)
  | [], _ => by rw [sumL_nil]; simp [Rat.mul_zero]
  | x :: l, h => by
    have h1 := sumL_le l (fun y hy => h y (List.mem_cons_of_mem _ hy))
    have h2 := h x (by simp)
    have h3 : (((x :: l).length : Int) : Rat) = ((l.length : Int) : Rat) + 1 := by rw [List.length_cons]; push_cast; rfl
    rw [sumL_cons, h3, Rat.mul_add, Rat.mul_one]
    grind
theorem div_ge {a s d : Rat} (hd : 0 < d) (h : a * d ≤ s) : a ≤ s / d := by
  have hq : s / d * d = s := Rat.div_mul_cancel (by grind)
  have ht : a ≤ s / d ∨ s / d ≤ a := Rat.le_total
  rcases ht with h1 | h1
  · exact h1
  · have h2 := Rat.mul_le_mul_of_nonneg_right h1 (Rat.le_of_lt hd)
    have h3 : a * d = s / d * d := by grind
    have h4 : a = s / d := by
      have h5 : a * d / d = s / d * d / d := by rw [h3]
      rwa [Rat.mul_div_cancel (by grind), Rat.mul_div_cancel (by grind)] at h5
    rw [h4]; exact Rat.le_refl
theorem div_le' {a s d : Rat} (hd : 0 < d) (h : s ≤ a * d) : s / d ≤ a := by
  have hq : s / d * d = s := Rat.div_mul_cancel (by grind)
  have ht : s / d ≤ a ∨ a ≤ s / d := Rat.le_total
  rcases ht with h1 | h1
  · exact h1
  · have h2 := Rat.mul_le_mul_of_nonneg_right h1 (Rat.le_of_lt hd)
    have h3 : a * d = s / d * d := by grind
    have h4 : a = s / d := by
      have h5 : a * d / d = s / d * d / d := by rw [h3]
      rwa [Rat.mul_div_cancel (by grind), Rat.mul_div_cancel (by grind)] at h5
    rw [h4]; exact Rat.le_refl
theorem win_pos {l : List Rat} {n i : Nat} (hi : i < l.length) (hn : 1 ≤ n) : (0 : Rat) < (((winL l n i).length : Int) : Rat) := by
  rw [winL_length hi]
  have h : (0 : Int) < ((i + 1 - (i + 1 - n) : Nat) : Int) := by omega
  have h2 : ((0 : Int) : Rat) < _ := Rat.intCast_lt_intCast.2 h
  first | exact h2 | simpa using h2
theorem meanV_ge {l : List Rat} {n i : Nat} {a : Rat} (hi : i < l.length) (hn : 1 ≤ n) (h : ∀ x ∈ winL l n i, a ≤ x) : a ≤ meanV l n i := by
  unfold meanV
  rw [← winL_length (n := n) hi]
  exact div_ge (win_pos hi hn) (sumL_ge _ h)
theorem meanV_le {l : List Rat} {n i : Nat} {a : Rat} (hi : i < l.length) (hn : 1 ≤ n) (h : ∀ x ∈ winL l n i, x ≤ a) : meanV l n i ≤ a := by
  unfold meanV
  rw [← winL_length (n := n) hi]
  exact div_le' (win_pos hi hn) (sumL_le _ h)
theorem meanV_same {m n i : Nat} {a : Rat} (hi : i < m) (hn : 1 ≤ n) : meanV (List.replicate m a) n i = a := by
  have hw : ∀ x ∈ winL (List.replicate m a) n i, x = a := fun x hx => (List.mem_replicate.1 (List.mem_of_mem_take (List.mem_of_mem_drop hx))).2
  have hl : i < (List.replicate m a).length := by rw [List.length_replicate]; exact hi
  exact Rat.le_antisymm (meanV_le hl hn fun x hx => by rw [hw x hx]; exact Rat.le_refl) (meanV_ge hl hn fun x hx => by rw [hw x hx]; exact Rat.le_refl)
theorem meansL_same {m n : Nat} {a : Rat} (hn : 1 ≤ n) : meansL (List.replicate m a) n m = List.replicate m a := by
  unfold meansL
  refine List.ext_getElem (by simp) fun i h1 h2 => ?_
  have hi : i < m := by simpa using h2
  simp [meanV_same hi hn]
theorem zeros_same {m n : Nat} {a : Rat} (hn : 1 ≤ n ∧ n ≤ m) : (List.replicate m a).map (· - meanV ((List.replicate m a).take n) n (n - 1)) = List.replicate m 0 := by
  rw [meanV_take _ hn.1, meanV_same (by omega) hn.1, List.map_replicate]
  congr 1
  grind
end Go.Proofs.YtnnbnecpcppkdaaDoor
