/- Blocks in order, merged two by two, plain. Conditions: those typed. -/
import Derived.Test.YtpnefacignalpaaStablePlain
namespace Go.Proofs.Ytpnefacignalpaa
set_option linter.unusedVariables false
section
variable {β : Type} {due : β → Int}
/-- what stands before c has the smaller numbers -/
def IdxAt (n c : Nat) (ys : List (β × Nat)) : Prop := ∀ p q x y, p < c → c ≤ q → q < n → ys[p]? = some x → ys[q]? = some y → x.2 < y.2
theorem IdxAt.seg {n c a b : Nat} {ys zs : List (β × Nat)} (h : IdxAt n c ys) (s : Seg a b ys zs) (hb : b ≤ n) (hc : c ≤ a ∨ b ≤ c) : IdxAt n c zs := by
  intro p q x y h1 h2 h3 hx hy
  have hp : ∃ p', p' < c ∧ ys[p']? = some x := by
    by_cases hp : a ≤ p ∧ p < b
    · obtain ⟨j, j1, j2, hj⟩ := s.mem p x hp.1 hp.2 hx
      exact ⟨j, by omega, hj⟩
    · rw [s.out p (by omega)] at hx
      exact ⟨p, h1, hx⟩
  have hq : ∃ q', c ≤ q' ∧ q' < n ∧ ys[q']? = some y := by
    by_cases hq : a ≤ q ∧ q < b
    · obtain ⟨j, j1, j2, hj⟩ := s.mem q y hq.1 hq.2 hy
      exact ⟨j, by omega, by omega, hj⟩
    · rw [s.out q (by omega)] at hy
      exact ⟨q, h2, h3, hy⟩
  obtain ⟨p', p1, hp⟩ := hp
  obtain ⟨q', q1, q2, hq⟩ := hq
  exact h p' q' x y p1 q1 q2 hp hq
/-- blocks of B elements are in order, and stand as their numbers say -/
structure Blocks (due : β → Int) (B n : Nat) (ys : List (β × Nat)) : Prop where
  ord : ∀ i, OrdOn (ltT due) (i * B) (min ((i + 1) * B) n) ys
  idx : ∀ i, IdxAt n (i * B) ys
/-- the first k pairs of blocks are merged -/
structure Mix (due : β → Int) (B n k : Nat) (ys : List (β × Nat)) : Prop where
  done : ∀ i, i < k → OrdOn (ltT due) (i * (2 * B)) ((i + 1) * (2 * B)) ys
  rest : ∀ i, 2 * k ≤ i → OrdOn (ltT due) (i * B) (min ((i + 1) * B) n) ys
  idx2 : ∀ i, IdxAt n (i * (2 * B)) ys
  idx1 : ∀ i, 2 * k ≤ i → IdxAt n (i * B) ys
theorem two_mul_b (i B : Nat) : i * (2 * B) = 2 * i * B := by rw [Nat.mul_left_comm, Nat.mul_assoc]
theorem Mix.start {B n : Nat} {ys : List (β × Nat)} (h : Blocks due B n ys) : Mix due B n 0 ys :=
  ⟨fun i hi => by omega, fun i _ => h.ord i, fun i => by rw [two_mul_b]; exact h.idx _, fun i _ => h.idx i⟩
theorem Mix.pre {B n k : Nat} {ys : List (β × Nat)} (h : Mix due B n k ys) (hb : (k + 1) * (2 * B) ≤ n) : MPre due (k * (2 * B)) (k * (2 * B) + B) ((k + 1) * (2 * B)) ys := by
  have e1 := two_mul_b k B
  have e2 : (2 * k + 1) * B = 2 * k * B + B := Nat.succ_mul _ _
  have e3 : (2 * k + 1 + 1) * B = 2 * k * B + B + B := by rw [Nat.succ_mul, e2]
  have e4 : (k + 1) * (2 * B) = 2 * k * B + B + B := by rw [Nat.succ_mul, e1]; omega
  refine ⟨?_, ?_, ?_⟩
  · exact (h.rest (2 * k) (Nat.le_refl _)).sub (by omega) (by omega)
  · exact (h.rest (2 * k + 1) (by omega)).sub (by omega) (by omega)
  · intro p q x y h1 h2 h3 h4 hx hy
    exact h.idx1 (2 * k + 1) (by omega) p q x y (by omega) (by omega) (by omega) hx hy
theorem Mix.pre2 {B n k : Nat} {ys : List (β × Nat)} (h : Mix due B n k ys) (hm : k * (2 * B) + B < n) (hb : n < (k + 1) * (2 * B)) : MPre due (k * (2 * B)) (k * (2 * B) + B) n ys := by
  have e1 := two_mul_b k B
  have e2 : (2 * k + 1) * B = 2 * k * B + B := Nat.succ_mul _ _
  have e3 : (2 * k + 1 + 1) * B = 2 * k * B + B + B := by rw [Nat.succ_mul, e2]
  have e4 : (k + 1) * (2 * B) = 2 * k * B + B + B := by rw [Nat.succ_mul, e1]; omega
  refine ⟨?_, ?_, ?_⟩
  · exact (h.rest (2 * k) (Nat.le_refl _)).sub (by omega) (by omega)
  · exact (h.rest (2 * k + 1) (by omega)).sub (by omega) (by omega)
  · intro p q x y h1 h2 h3 h4 hx hy
    exact h.idx1 (2 * k + 1) (by omega) p q x y (by omega) (by omega) (by omega) hx hy
theorem Mix.step {B n k : Nat} {ys zs : List (β × Nat)} (h : Mix due B n k ys) (hb : (k + 1) * (2 * B) ≤ n) (s : MPost due (k * (2 * B)) ((k + 1) * (2 * B)) ys zs) : Mix due B n (k + 1) zs := by
  have e4 : (k + 1) * (2 * B) = 2 * (k + 1) * B := two_mul_b _ _
  refine ⟨fun i hi => ?_, fun i hi => ?_, fun i => ?_, fun i hi => ?_⟩
  · by_cases hik : i = k
    · subst hik; exact s.ord
    · have h1 : (i + 1) * (2 * B) ≤ k * (2 * B) := Nat.mul_le_mul_right _ (by omega)
      exact (h.done i (by omega)).same fun j h2 h3 => s.seg.out j (by omega)
  · have h1 : 2 * (k + 1) * B ≤ i * B := Nat.mul_le_mul_right _ hi
    exact (h.rest i (by omega)).same fun j h2 h3 => s.seg.out j (by omega)
  · refine (h.idx2 i).seg s.seg hb ?_
    by_cases hik : i ≤ k
    · exact .inl (Nat.mul_le_mul_right _ hik)
    · exact .inr (Nat.mul_le_mul_right _ (by omega))
  · have h1 : 2 * (k + 1) * B ≤ i * B := Nat.mul_le_mul_right _ hi
    exact (h.idx1 i (by omega)).seg s.seg hb (.inr (by omega))
theorem Mix.last {B n k : Nat} {ys zs : List (β × Nat)} (h : Mix due B n k ys) (hb : n < (k + 1) * (2 * B)) (s : MPost due (k * (2 * B)) n ys zs) : Blocks due (2 * B) n zs := by
  refine ⟨fun i => ?_, fun i => ?_⟩
  · by_cases hik : i < k
    · have h1 : (i + 1) * (2 * B) ≤ k * (2 * B) := Nat.mul_le_mul_right _ (by omega)
      exact ((h.done i hik).same fun j h2 h3 => s.seg.out j (by omega)).sub (Nat.le_refl _) (by omega)
    · by_cases hik2 : i = k
      · subst hik2; exact s.ord.sub (Nat.le_refl _) (by omega)
      · have h1 : (k + 1) * (2 * B) ≤ i * (2 * B) := Nat.mul_le_mul_right _ (by omega)
        exact OrdOn.short (by omega)
  · intro p q x y h1 h2 h3 hx hy
    by_cases hik : i ≤ k
    · exact (h.idx2 i).seg s.seg (Nat.le_refl _) (.inl (Nat.mul_le_mul_right _ hik)) p q x y h1 h2 h3 hx hy
    · have h4 : (k + 1) * (2 * B) ≤ i * (2 * B) := Nat.mul_le_mul_right _ (by omega)
      omega
theorem Mix.none {B n k : Nat} {ys : List (β × Nat)} (h : Mix due B n k ys) (hm : n ≤ k * (2 * B) + B) : MPost due (k * (2 * B)) n ys ys := by
  have e1 := two_mul_b k B
  have e2 : (2 * k + 1) * B = 2 * k * B + B := Nat.succ_mul _ _
  exact MPost.refl ((h.rest (2 * k) (Nat.le_refl _)).sub (by omega) (by omega))
/-- the first k blocks of B are in order -/
structure First (due : β → Int) (B n k : Nat) (ys : List (β × Nat)) : Prop where
  done : ∀ i, i < k → OrdOn (ltT due) (i * B) ((i + 1) * B) ys
  idx : ∀ i, IdxAt n (i * B) ys
  rest : ∀ p q x y, k * B ≤ p → p < q → q < n → ys[p]? = some x → ys[q]? = some y → x.2 < y.2
theorem First.start {B n : Nat} {ys : List (β × Nat)} (h : ∀ p q x y, p < q → q < n → ys[p]? = some x → ys[q]? = some y → x.2 < y.2) : First due B n 0 ys :=
  ⟨fun i hi => by omega, fun i p q x y h1 h2 h3 hx hy => h p q x y (by omega) h3 hx hy, fun p q x y _ h1 h2 hx hy => h p q x y h1 h2 hx hy⟩
theorem First.step {B n k : Nat} {ys zs : List (β × Nat)} (h : First due B n k ys) (hb : (k + 1) * B ≤ n) (s : MPost due (k * B) ((k + 1) * B) ys zs) : First due B n (k + 1) zs := by
  refine ⟨fun i hi => ?_, fun i => ?_, fun p q x y h1 h2 h3 hx hy => ?_⟩
  · by_cases hik : i = k
    · subst hik; exact s.ord
    · have h1 : (i + 1) * B ≤ k * B := Nat.mul_le_mul_right _ (by omega)
      exact (h.done i (by omega)).same fun j h2 h3 => s.seg.out j (by omega)
  · refine (h.idx i).seg s.seg hb ?_
    by_cases hik : i ≤ k
    · exact .inl (Nat.mul_le_mul_right _ hik)
    · exact .inr (Nat.mul_le_mul_right _ (by omega))
  · have e : (k + 1) * B = k * B + B := Nat.succ_mul _ _
    rw [s.seg.out p (by omega)] at hx
    rw [s.seg.out q (by omega)] at hy
    exact h.rest p q x y (by omega) h2 h3 hx hy
theorem First.last {B n k : Nat} {ys zs : List (β × Nat)} (h : First due B n k ys) (hb : n < (k + 1) * B) (s : MPost due (k * B) n ys zs) : Blocks due B n zs := by
  refine ⟨fun i => ?_, fun i => ?_⟩
  · by_cases hik : i < k
    · have h1 : (i + 1) * B ≤ k * B := Nat.mul_le_mul_right _ (by omega)
      exact ((h.done i hik).same fun j h2 h3 => s.seg.out j (by omega)).sub (Nat.le_refl _) (by omega)
    · by_cases hik2 : i = k
      · subst hik2; exact s.ord.sub (Nat.le_refl _) (by omega)
      · have h1 : (k + 1) * B ≤ i * B := Nat.mul_le_mul_right _ (by omega)
        exact OrdOn.short (by omega)
  · intro p q x y h1 h2 h3 hx hy
    by_cases hik : i ≤ k
    · exact (h.idx i).seg s.seg (Nat.le_refl _) (.inl (Nat.mul_le_mul_right _ hik)) p q x y h1 h2 h3 hx hy
    · have h4 : (k + 1) * B ≤ i * B := Nat.mul_le_mul_right _ (by omega)
      omega
theorem Blocks.all {B n : Nat} {ys : List (β × Nat)} (h : Blocks due B n ys) (hb : n ≤ B) : OrdOn (ltT due) 0 n ys := by
  have := h.ord 0
  rw [Nat.zero_mul, Nat.zero_add, Nat.one_mul] at this
  exact this.sub (Nat.le_refl _) (by omega)
end
end Go.Proofs.Ytpnefacignalpaa
