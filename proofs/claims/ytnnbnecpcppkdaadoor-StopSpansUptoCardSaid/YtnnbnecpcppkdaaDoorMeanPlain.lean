/- What feel.Mean reckons, plain. Conditions: those typed. -/
import Derived.Test.YtnnbnecpcppkdaaDoorMakeQ
namespace Go.Proofs.YtnnbnecpcppkdaaDoor
set_option linter.unusedVariables false
def sumL (l : List Rat) : Rat := l.foldl (· + ·) 0
theorem sumL_nil : sumL [] = 0 := rfl
theorem sumL_snoc (l : List Rat) (x : Rat) : sumL (l ++ [x]) = sumL l + x := by unfold sumL; rw [List.foldl_append]; rfl
theorem sumL_acc (l : List Rat) (a : Rat) : l.foldl (· + ·) a = a + sumL l := by
  induction l generalizing a with
  | nil => rw [sumL_nil]; simp only [List.foldl_nil]; grind
  | cons x l ih =>
    rw [List.foldl_cons, ih, show sumL (x :: l) = (0 + x) + sumL l from by unfold sumL; rw [List.foldl_cons]; exact ih (0 + x)]
    grind
theorem sumL_cons (x : Rat) (l : List Rat) : sumL (x :: l) = x + sumL l := by
  unfold sumL; rw [List.foldl_cons]; rw [sumL_acc]; unfold sumL; grind
theorem sumL_rev (l : List Rat) : sumL l.reverse = sumL l := by
  induction l with
  | nil => rfl
  | cons x l ih => rw [List.reverse_cons, sumL_snoc, sumL_cons, ih]; grind
/-- the readings of the mean at i -/
def winL (l : List Rat) (n i : Nat) : List Rat := (l.take (i + 1)).drop (i + 1 - n)
theorem winL_length {l : List Rat} {n i : Nat} (hi : i < l.length) : (winL l n i).length = i + 1 - (i + 1 - n) := by
  unfold winL
  rw [List.length_drop, List.length_take]
  omega
def meanV (l : List Rat) (n i : Nat) : Rat := sumL (winL l n i) / (((i + 1 - (i + 1 - n) : Nat) : Int) : Rat)
theorem winL_get {l : List Rat} {n i j : Nat} (hj : j < i + 1 - (i + 1 - n)) : (winL l n i)[j]? = l[i + 1 - n + j]? := by
  unfold winL
  rw [List.getElem?_drop, List.getElem?_take, if_pos (by omega)]
theorem sumL_take_succ {l : List Rat} {j : Nat} {x : Rat} (h : l[j]? = some x) : sumL (l.take (j + 1)) = sumL (l.take j) + x := by
  rw [List.take_add_one, h]; exact sumL_snoc _ _
def meansL (l : List Rat) (n k : Nat) : List Rat := (List.range k).map (meanV l n)
theorem meansL_succ (l : List Rat) (n k : Nat) : meansL l n (k + 1) = meansL l n k ++ [meanV l n k] := by
  unfold meansL; rw [List.range_succ, List.map_append]; rfl
theorem meansL_get {l : List Rat} {n k i : Nat} (h : i < k) : (meansL l n k)[i]? = some (meanV l n i) := by
  unfold meansL; rw [List.getElem?_map, List.getElem?_range h]; rfl
theorem sumL_qz {B : Nat} {l : List Rat} (h : ∀ x ∈ l, qz x ≤ B) : qz (sumL l) ≤ 1 + l.length * (B + 1) := by
  induction l with
  | nil => rw [sumL_nil, qz_zero]; simp
  | cons x l ih =>
    rw [sumL_cons]
    have h1 := qz_add x (sumL l)
    have h2 := h x (by simp)
    have h3 := ih (fun y hy => h y (List.mem_cons_of_mem _ hy))
    rw [List.length_cons, Nat.add_mul]
    omega
theorem meanV_qz {B : Nat} {l : List Rat} {n i : Nat} (h : ∀ x ∈ l, qz x ≤ B) (hi : i < l.length) (hl : l.length ≤ 1000) : qz (meanV l n i) ≤ 9 + 1000 * (B + 1) := by
  unfold meanV
  have h1 := qz_div (sumL (winL l n i)) (((i + 1 - (i + 1 - n) : Nat) : Int) : Rat)
  have h2 := sumL_qz (B := B) (l := winL l n i) (fun x hx => h x (List.mem_of_mem_take (List.mem_of_mem_drop hx)))
  have h3 := qz_int ((i + 1 - (i + 1 - n) : Nat) : Int) (by omega)
  have h4 := winL_length (n := n) hi
  have h5 : (winL l n i).length * (B + 1) ≤ 1000 * (B + 1) := Nat.mul_le_mul_right _ (by omega)
  omega
theorem meanV_take (l : List Rat) {n : Nat} (hn : 1 ≤ n) : meanV (l.take n) n (n - 1) = meanV l n (n - 1) := by
  unfold meanV winL
  rw [show n - 1 + 1 = n by omega, List.take_take, Nat.min_self]
/-- from the last one down -/
theorem rwin_get {l : List Rat} {n i j : Nat} (hi : i < l.length) (hj : j < i + 1 - (i + 1 - n)) : (winL l n i).reverse[j]? = l[i - j]? := by
  rw [List.getElem?_reverse (by rw [winL_length hi]; exact hj), winL_length hi, winL_get (by omega)]
  congr 1
  omega
theorem mean_mul {l : List Rat} {n i : Nat} (hn : 1 ≤ n) : meanV l n i * (((i + 1 - (i + 1 - n) : Nat) : Int) : Rat) = sumL (winL l n i) := by
  unfold meanV
  refine Rat.div_mul_cancel ?_
  intro h0
  have h1 : (((i + 1 - (i + 1 - n) : Nat) : Int) : Rat) = ((0 : Int) : Rat) := h0
  have := Rat.intCast_inj.mp h1
  omega
end Go.Proofs.YtnnbnecpcppkdaaDoor
