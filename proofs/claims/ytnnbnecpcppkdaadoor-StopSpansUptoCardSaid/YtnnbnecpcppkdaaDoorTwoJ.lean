/- 'low, high := x, x' in a region that draws, where a load of x may come behind the first store. Conditions: those typed. -/
import Derived.Test.YtnnbnecpcppkdaaDoorTwoF
import Derived.Test.YtnnbnecpcppkdaaDoorInvJ
import Derived.Test.YtnnbnecpcppkdaaDoorMakeQ
namespace Go.Proofs.YtnnbnecpcppkdaaDoor
open Go.RowKit Go.Gy
set_option linter.unusedVariables false
/-- 'low, high := x, x': n operations yield vals, two make memory, one stores into the first: what is listed, and what it yielded -/
def J2 (wo : World) (ls : List (Nat × TypeId × Array Value)) (x : Q3) (n : Nat) (vals : List Value) (s : Nat → Bool) (vs : Nat → Value) (W : World) : Prop :=
  (∀ j v, vals[j]? = some v → s j = true → vs j = v) ∧ (s (n + 2) = true → s n = true) ∧
    InT wo ls 25 (if s (n + 2) = true then #[.bool x.neg, .string x.num, .string x.den] else #[.bool false, .string { data := #[] }, .string { data := #[] }]) 25 #[.bool false, .string { data := #[] }, .string { data := #[] }] (if s n = true then some (vs n) else none) (if s (n + 1) = true then some (vs (n + 1)) else none) W
section
variable {wo : World} {ls : List (Nat × TypeId × Array Value)} {x : Q3} {n : Nat} {vals : List Value} {s : Nat → Bool} {vs : Nat → Value} {W : World}
theorem J2.start (h : In wo ls W) : J2 wo ls x n vals (fun _ => false) (fun _ => undef) W := ⟨(fun _ _ _ h => (by cases h)), (fun h => (by cases h)), h⟩
theorem J2.bel (h : J2 wo ls x n vals s vs W) : Below wo.heap.size wo W := by
  obtain ⟨_, _, h⟩ := h
  split at h <;> split at h <;> split at h
  all_goals first
    | exact In.bel h
    | (obtain ⟨g, _, h⟩ := h; exact h.bel)
    | (obtain ⟨g1, g2, _, _, h⟩ := h; exact h.bel)
theorem J2.pure (h : J2 wo ls x n vals s vs W) {i : Nat} {v : Value} (hi : i < n) (hv : vals[i]? = some v) : J2 wo ls x n vals (updI s i true) (updI vs i v) W := by
  obtain ⟨h1, h2, h3⟩ := h
  refine ⟨fun j u hj hs => ?_, ?_, ?_⟩
  · by_cases hji : j = i
    · subst hji
      rw [updI_same]
      rw [hv] at hj
      exact Option.some.inj hj
    · rw [updI_ne vs v hji]
      rw [updI_ne s true hji] at hs
      exact h1 j u hj hs
  · rw [updI_ne s true (show n + 2 ≠ i by omega), updI_ne s true (show n ≠ i by omega)]
    exact h2
  · rw [updI_ne s true (show n + 2 ≠ i by omega), updI_ne s true (show n ≠ i by omega), updI_ne s true (show n + 1 ≠ i by omega), updI_ne vs v (show n ≠ i by omega), updI_ne vs v (show n + 1 ≠ i by omega)]
    exact h3
theorem J2.alloc8 (h : J2 wo ls x n vals s vs W) (hs : s n = false) (hl : vals.length = n) : J2 wo ls x n vals (updI s n true) (updI vs n (.pointer (some ⟨W.heap.size, 0, none⟩))) (W.alloc (.cells #[.bool false, .string { data := #[] }, .string { data := #[] }] 25)) := by
  obtain ⟨h1, h2, h3⟩ := h
  have hs10 : s (n + 2) = false := by
    cases h10 : s (n + 2) with
    | false => rfl
    | true => rw [h2 h10] at hs; cases hs
  refine ⟨fun j u hj hsj => ?_, fun _ => updI_same _ _ _, ?_⟩
  · have : j < n := by rw [← hl]; exact (List.getElem?_eq_some_iff.1 hj).1
    rw [updI_ne vs _ (show j ≠ n by omega)]
    rw [updI_ne s true (show j ≠ n by omega)] at hsj
    exact h1 j u hj hsj
  · rw [updI_ne s true (show n + 2 ≠ n by omega), updI_ne s true (show n + 1 ≠ n by omega), updI_ne vs _ (show n + 1 ≠ n by omega), updI_same, updI_same, hs10]
    rw [hs10, hs] at h3
    cases h9 : s (n + 1) with
    | false =>
      rw [h9] at h3
      exact ⟨W.heap.size, rfl, In.alloc h3 _ _⟩
    | true =>
      rw [h9] at h3
      obtain ⟨g, hg, h⟩ := h3
      exact ⟨W.heap.size, g, rfl, hg, (In.alloc h _ _).swap⟩
theorem J2.alloc9 (h : J2 wo ls x n vals s vs W) (hs : s (n + 1) = false) (hl : vals.length = n) : J2 wo ls x n vals (updI s (n + 1) true) (updI vs (n + 1) (.pointer (some ⟨W.heap.size, 0, none⟩))) (W.alloc (.cells #[.bool false, .string { data := #[] }, .string { data := #[] }] 25)) := by
  obtain ⟨h1, h2, h3⟩ := h
  refine ⟨fun j u hj hsj => ?_, ?_, ?_⟩
  · have : j < n := by rw [← hl]; exact (List.getElem?_eq_some_iff.1 hj).1
    rw [updI_ne vs _ (show j ≠ n + 1 by omega)]
    rw [updI_ne s true (show j ≠ n + 1 by omega)] at hsj
    exact h1 j u hj hsj
  · rw [updI_ne s true (show n + 2 ≠ n + 1 by omega), updI_ne s true (show n ≠ n + 1 by omega)]
    exact h2
  · rw [updI_ne s true (show n + 2 ≠ n + 1 by omega), updI_ne s true (show n ≠ n + 1 by omega), updI_ne vs _ (show n ≠ n + 1 by omega), updI_same, updI_same]
    rw [hs] at h3
    cases hsn : s n with
    | false =>
      rw [hsn] at h3
      exact ⟨W.heap.size, rfl, In.alloc h3 _ _⟩
    | true =>
      rw [hsn] at h3
      obtain ⟨g, hg, h⟩ := h3
      exact ⟨g, W.heap.size, hg, rfl, In.alloc h _ _⟩
/-- ahead of the first store -/
theorem J2.at8 (h : J2 wo ls x n vals s vs W) (hs8 : s n = true) (hs : s (n + 2) = false) (hl : vals.length = n) : ∃ g, vs n = .pointer (some ⟨g, 0, none⟩) ∧ In wo ((g, 25, #[.bool false, .string { data := #[] }, .string { data := #[] }]) :: ls) W ∧
    J2 wo ls x n vals (updI s (n + 2) true) (updI vs (n + 2) undef) (((W.setCell ⟨g, 0, none⟩ (.bool x.neg)).setCell ⟨g, 1, none⟩ (.string x.num)).setCell ⟨g, 2, none⟩ (.string x.den)) := by
  obtain ⟨h1, h2, h3⟩ := h
  have key : ∀ {W' : World}, InT wo ls 25 #[.bool x.neg, .string x.num, .string x.den] 25 #[.bool false, .string { data := #[] }, .string { data := #[] }] (some (vs n)) (if s (n + 1) = true then some (vs (n + 1)) else none) W' → J2 wo ls x n vals (updI s (n + 2) true) (updI vs (n + 2) undef) W' := fun h => by
    refine ⟨fun j u hj hsj => ?_, fun _ => ?_, ?_⟩
    · have : j < n := by rw [← hl]; exact (List.getElem?_eq_some_iff.1 hj).1
      rw [updI_ne vs _ (show j ≠ n + 2 by omega)]
      rw [updI_ne s true (show j ≠ n + 2 by omega)] at hsj
      exact h1 j u hj hsj
    · rw [updI_ne s true (show n ≠ n + 2 by omega)]; exact hs8
    · rw [updI_same, updI_ne s true (show n ≠ n + 2 by omega), updI_ne s true (show n + 1 ≠ n + 2 by omega), updI_ne vs _ (show n ≠ n + 2 by omega), updI_ne vs _ (show n + 1 ≠ n + 2 by omega), hs8]
      exact h
  rw [hs8, hs] at h3
  cases h9 : s (n + 1) with
  | false =>
    rw [h9] at h3 key
    obtain ⟨g, hg, h⟩ := h3
    exact ⟨g, hg, h, key ⟨g, hg, In.all3 (a := []) h _ _ _⟩⟩
  | true =>
    rw [h9] at h3 key
    obtain ⟨g, g2, hg, hg2, h⟩ := h3
    exact ⟨g, hg, h.tail, key ⟨g, g2, hg, hg2, In.all3 (a := [_]) h _ _ _⟩⟩
theorem J2.fin (h : J2 wo ls x n vals s vs W) (hs : ∀ i, i < n + 3 → s i = true) : ∃ g1 g2, vs n = .pointer (some ⟨g1, 0, none⟩) ∧ vs (n + 1) = .pointer (some ⟨g2, 0, none⟩) ∧ In wo ((g2, 25, #[.bool false, .string { data := #[] }, .string { data := #[] }]) :: (g1, 25, #[.bool x.neg, .string x.num, .string x.den]) :: ls) W := by
  obtain ⟨_, _, h⟩ := h
  rw [hs n (by omega), hs (n + 1) (by omega), hs (n + 2) (by omega)] at h
  exact h
end
end Go.Proofs.YtnnbnecpcppkdaaDoor
