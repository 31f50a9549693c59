/- A stable sort on lists: what its parts do, plain. Conditions: those typed. -/
import Derived.Test.YtpnefacignalpaaWords
namespace Go.Proofs.Ytpnefacignalpaa
set_option linter.unusedVariables false
section
variable {α : Type}
/-- ys is xs but for the places from a on below b, where it holds the same elements -/
structure Seg (a b : Nat) (xs ys : List α) : Prop where
  len : ys.length = xs.length
  out : ∀ i, i < a ∨ b ≤ i → ys[i]? = xs[i]?
  perm : ys.Perm xs
  mem : ∀ i x, a ≤ i → i < b → ys[i]? = some x → ∃ j, a ≤ j ∧ j < b ∧ xs[j]? = some x
theorem Seg.refl (a b : Nat) (xs : List α) : Seg a b xs xs := ⟨rfl, fun _ _ => rfl, List.Perm.refl _, fun i x h1 h2 hx => ⟨i, h1, h2, hx⟩⟩
theorem Seg.trans {a b : Nat} {xs ys zs : List α} (h : Seg a b xs ys) (k : Seg a b ys zs) : Seg a b xs zs := ⟨k.len.trans h.len, fun i hi => (k.out i hi).trans (h.out i hi), k.perm.trans h.perm, fun i x h1 h2 hx => by
  obtain ⟨j, j1, j2, hj⟩ := k.mem i x h1 h2 hx
  exact h.mem j x j1 j2 hj⟩
theorem Seg.mono {a b a' b' : Nat} {xs ys : List α} (h : Seg a b xs ys) (ha : a' ≤ a) (hb : b ≤ b') : Seg a' b' xs ys := ⟨h.len, fun i hi => h.out i (by omega), h.perm, fun i x h1 h2 hx => by
  by_cases hi : a ≤ i ∧ i < b
  · obtain ⟨j, j1, j2, hj⟩ := h.mem i x hi.1 hi.2 hx
    exact ⟨j, by omega, by omega, hj⟩
  · rw [h.out i (by omega)] at hx
    exact ⟨i, h1, h2, hx⟩⟩
/-- the elements of two places change places -/
def swapL (xs : List α) (i j : Nat) : List α := match xs[i]?, xs[j]? with
  | some x, some y => (xs.set i y).set j x
  | _, _ => xs
theorem swapL_eq {xs : List α} {i j : Nat} {x y : α} (hx : xs[i]? = some x) (hy : xs[j]? = some y) : swapL xs i j = (xs.set i y).set j x := by
  unfold swapL
  rw [hx, hy]
theorem swapL_len (xs : List α) (i j : Nat) : (swapL xs i j).length = xs.length := by
  unfold swapL
  split
  · simp
  · rfl
theorem swapL_get {xs : List α} {i j : Nat} {x y : α} (hx : xs[i]? = some x) (hy : xs[j]? = some y) (k : Nat) : (swapL xs i j)[k]? = if k = j then some x else if k = i then some y else xs[k]? := by
  rw [swapL_eq hx hy, List.getElem?_set, List.getElem?_set, List.length_set]
  have hi := (List.getElem?_eq_some_iff.1 hx).1
  have hj := (List.getElem?_eq_some_iff.1 hy).1
  by_cases h1 : k = j
  · subst h1
    rw [if_pos rfl, if_pos rfl, if_pos hj]
  · rw [if_neg (show ¬ j = k from fun h => h1 h.symm), if_neg h1]
    by_cases h2 : k = i
    · subst h2
      rw [if_pos rfl, if_pos rfl, if_pos hi]
    · rw [if_neg (show ¬ i = k from fun h => h2 h.symm), if_neg h2]
theorem perm_set {xs : List α} {i : Nat} {x : α} (hx : xs[i]? = some x) (y : α) : (x :: xs.set i y).Perm (y :: xs) := by
  induction xs generalizing i with
  | nil => simp at hx
  | cons z zs ih =>
    cases i with
    | zero =>
      obtain rfl : z = x := by simpa using hx
      exact List.Perm.swap _ _ _
    | succ i =>
      have := ih (i := i) (by simpa using hx)
      rw [List.set_cons_succ]
      exact (List.Perm.swap _ _ _).trans ((this.cons z).trans (List.Perm.swap _ _ _))
theorem swapL_perm (xs : List α) (i j : Nat) : (swapL xs i j).Perm xs := by
  unfold swapL
  split
  · next x y hx hy =>
    by_cases hij : i = j
    · subst hij
      rw [hx] at hy
      obtain rfl := Option.some.inj hy
      have h1 : xs.set i x = xs := by
        apply List.ext_getElem?
        intro k
        rw [List.getElem?_set]
        by_cases hk : i = k
        · subst hk; rw [if_pos rfl, if_pos (List.getElem?_eq_some_iff.1 hx).1, hx]
        · rw [if_neg hk]
      rw [h1, h1]
    · have h1 : (xs.set i y)[j]? = some y := by rw [List.getElem?_set, if_neg hij]; exact hy
      have p1 := perm_set h1 x
      have p2 := perm_set hx y
      exact List.Perm.cons_inv (p1.trans p2)
  · exact List.Perm.refl _
theorem swapL_seg {xs : List α} {i j a b : Nat} (hi : a ≤ i ∧ i < b) (hj : a ≤ j ∧ j < b) : Seg a b xs (swapL xs i j) := by
  refine ⟨swapL_len _ _ _, fun k hk => ?_, swapL_perm _ _ _, fun k z h1 h2 hz => ?_⟩
  · unfold swapL
    split
    · rw [List.getElem?_set, List.getElem?_set, if_neg (by omega), if_neg (by omega)]
    · rfl
  · cases hx : xs[i]? with
    | none =>
      have : swapL xs i j = xs := by unfold swapL; rw [hx]
      rw [this] at hz
      exact ⟨k, h1, h2, hz⟩
    | some x =>
      cases hy : xs[j]? with
      | none =>
        have : swapL xs i j = xs := by unfold swapL; rw [hx, hy]
        rw [this] at hz
        exact ⟨k, h1, h2, hz⟩
      | some y =>
        rw [swapL_get hx hy] at hz
        split at hz
        · exact ⟨i, hi.1, hi.2, by rw [hx]; exact hz⟩
        · split at hz
          · exact ⟨j, hj.1, hj.2, by rw [hy]; exact hz⟩
          · exact ⟨k, h1, h2, hz⟩
/-- in order from a on below b -/
def OrdOn (lt : α → α → Prop) (a b : Nat) (xs : List α) : Prop := ∀ i j x y, a ≤ i → i < j → j < b → xs[i]? = some x → xs[j]? = some y → lt x y
theorem OrdOn.sub {lt : α → α → Prop} {a b a' b' : Nat} {xs : List α} (h : OrdOn lt a b xs) (ha : a ≤ a') (hb : b' ≤ b) : OrdOn lt a' b' xs := fun i j x y h1 h2 h3 hx hy => h i j x y (by omega) h2 (by omega) hx hy
theorem OrdOn.short {lt : α → α → Prop} {a b : Nat} {xs : List α} (h : b ≤ a + 1) : OrdOn lt a b xs := fun i j x y h1 h2 h3 => by omega
theorem OrdOn.same {lt : α → α → Prop} {a b : Nat} {xs ys : List α} (h : OrdOn lt a b xs) (hs : ∀ i, a ≤ i → i < b → ys[i]? = xs[i]?) : OrdOn lt a b ys := fun i j x y h1 h2 h3 hx hy => h i j x y h1 h2 h3 (by rw [← hs i h1 (by omega)]; exact hx) (by rw [← hs j (by omega) h3]; exact hy)
/-- n elements from a on and n from b on have changed places -/
structure SwR (a b n : Nat) (xs ys : List α) : Prop where
  len : ys.length = xs.length
  lo : ∀ k, k < n → ys[a + k]? = xs[b + k]?
  hi : ∀ k, k < n → ys[b + k]? = xs[a + k]?
  out : ∀ k, k < a ∨ (a + n ≤ k ∧ k < b) ∨ b + n ≤ k → ys[k]? = xs[k]?
  perm : ys.Perm xs
theorem SwR.zero (a b : Nat) (xs : List α) : SwR a b 0 xs xs := ⟨rfl, fun k h => by omega, fun k h => by omega, fun _ _ => rfl, List.Perm.refl _⟩
theorem SwR.step {a b n i : Nat} {xs ys : List α} (h : SwR a b i xs ys) (hi : i < n) (hab : a + n ≤ b) (hb : b + n ≤ xs.length) : SwR a b (i + 1) xs (swapL ys (a + i) (b + i)) := by
  have hl := h.len
  obtain ⟨x, hx⟩ : ∃ x, ys[a + i]? = some x := ⟨_, List.getElem?_eq_getElem (by omega)⟩
  obtain ⟨y, hy⟩ : ∃ y, ys[b + i]? = some y := ⟨_, List.getElem?_eq_getElem (by omega)⟩
  have hx0 : xs[a + i]? = some x := by rw [← h.out (a + i) (by omega)]; exact hx
  have hy0 : xs[b + i]? = some y := by rw [← h.out (b + i) (by omega)]; exact hy
  refine ⟨(swapL_len _ _ _).trans hl, fun k hk => ?_, fun k hk => ?_, fun k hk => ?_, (swapL_perm _ _ _).trans h.perm⟩
  · rw [swapL_get hx hy, if_neg (by omega)]
    by_cases hki : k = i
    · subst hki; rw [if_pos rfl, hy0]
    · rw [if_neg (by omega), h.lo k (by omega)]
  · rw [swapL_get hx hy]
    by_cases hki : k = i
    · subst hki; rw [if_pos rfl, hx0]
    · rw [if_neg (by omega), if_neg (by omega), h.hi k (by omega)]
  · rw [swapL_get hx hy, if_neg (by omega), if_neg (by omega), h.out k (by omega)]
/-- the parts from a to m and from m to b have changed places -/
structure RotIs (a m b : Nat) (xs ys : List α) : Prop where
  len : ys.length = xs.length
  lo : ∀ k, k < b - m → ys[a + k]? = xs[m + k]?
  hi : ∀ k, k < m - a → ys[a + (b - m) + k]? = xs[a + k]?
  out : ∀ k, k < a ∨ b ≤ k → ys[k]? = xs[k]?
  perm : ys.Perm xs
theorem RotIs.seg {a m b : Nat} {xs ys : List α} (h : RotIs a m b xs ys) (h1 : a ≤ m) (h2 : m ≤ b) : Seg a b xs ys := by
  refine ⟨h.len, h.out, h.perm, fun i x hi1 hi2 hx => ?_⟩
  by_cases hi : i < a + (b - m)
  · refine ⟨m + (i - a), by omega, by omega, ?_⟩
    rw [← h.lo (i - a) (by omega), show a + (i - a) = i by omega]
    exact hx
  · refine ⟨a + (i - (a + (b - m))), by omega, by omega, ?_⟩
    rw [← h.hi (i - (a + (b - m))) (by omega), show a + (b - m) + (i - (a + (b - m))) = i by omega]
    exact hx
theorem SwR.rot {m i : Nat} {xs ys : List α} (h : SwR (m - i) m i xs ys) (hi : i ≤ m) : RotIs (m - i) m (m + i) xs ys := by
  refine ⟨h.len, fun k hk => h.lo k (by omega), fun k hk => ?_, fun k hk => h.out k (by omega), h.perm⟩
  rw [show m - i + (m + i - m) + k = m + k by omega]
  exact h.hi k (by omega)
theorem RotIs.left {m i j : Nat} {xs ys zs : List α} (hji : j < i) (him : i ≤ m) (hs : SwR (m - i) m j xs ys) (h : RotIs (m - (i - j)) m (m + j) ys zs) : RotIs (m - i) m (m + j) xs zs := by
  refine ⟨h.len.trans hs.len, fun k hk => ?_, fun k hk => ?_, fun k hk => ?_, h.perm.trans hs.perm⟩
  · rw [h.out _ (by omega), hs.lo k (by omega)]
  · by_cases hkj : k < j
    · rw [show m - i + (m + j - m) + k = m - (i - j) + k by omega, h.lo k (by omega), hs.hi k hkj]
    · have := h.hi (k - j) (by omega)
      rw [show m - i + (m + j - m) + k = m - (i - j) + (m + j - m) + (k - j) by omega, this, show m - (i - j) + (k - j) = m - i + k by omega, hs.out _ (by omega)]
  · rw [h.out k (by omega), hs.out k (by omega)]
theorem RotIs.right {m i j : Nat} {xs ys zs : List α} (hij : i < j) (him : i ≤ m) (hs : SwR (m - i) (m + j - i) i xs ys) (h : RotIs (m - i) m (m + (j - i)) ys zs) : RotIs (m - i) m (m + j) xs zs := by
  refine ⟨h.len.trans hs.len, fun k hk => ?_, fun k hk => ?_, fun k hk => ?_, h.perm.trans hs.perm⟩
  · by_cases hkj : k < j - i
    · rw [h.lo k (by omega), hs.out _ (by omega)]
    · have := h.hi (k - (j - i)) (by omega)
      rw [show m - i + k = m - i + (m + (j - i) - m) + (k - (j - i)) by omega, this, hs.lo (k - (j - i)) (by omega)]
      congr 1
      omega
  · rw [show m - i + (m + j - m) + k = m + j - i + k by omega, h.out _ (by omega), hs.hi k (by omega)]
  · rw [h.out k (by omega), hs.out k (by omega)]
theorem RotIs.none (a m : Nat) (xs : List α) : RotIs a m m xs xs := ⟨rfl, fun k h => by omega, fun k h => by rw [show a + (m - m) + k = a + k by omega], fun _ _ => rfl, List.Perm.refl _⟩
theorem RotIs.none' (m b : Nat) (xs : List α) : RotIs m m b xs xs := ⟨rfl, fun k h => rfl, fun k h => by omega, fun _ _ => rfl, List.Perm.refl _⟩
/-- one step up -/
theorem RotIs.up {a k : Nat} {xs ys : List α} (h : RotIs a (a + 1) (k + 1) xs ys) (ha : a ≤ k) (hk : k + 1 < xs.length) : RotIs a (a + 1) (k + 1 + 1) xs (swapL ys k (k + 1)) := by
  have hl := h.len
  obtain ⟨x, hx⟩ : ∃ x, ys[k]? = some x := ⟨_, List.getElem?_eq_getElem (by omega)⟩
  obtain ⟨y, hy⟩ : ∃ y, ys[k + 1]? = some y := ⟨_, List.getElem?_eq_getElem (by omega)⟩
  have hx0 : xs[a]? = some x := by
    have := h.hi 0 (by omega)
    rw [show a + (k + 1 - (a + 1)) + 0 = k by omega, hx] at this
    exact this.symm
  have hy0 : xs[k + 1]? = some y := by rw [← h.out (k + 1) (by omega)]; exact hy
  refine ⟨(swapL_len _ _ _).trans hl, fun t ht => ?_, fun t ht => ?_, fun t ht => ?_, (swapL_perm _ _ _).trans h.perm⟩
  · rw [swapL_get hx hy, if_neg (by omega)]
    by_cases htk : a + t = k
    · rw [if_pos htk, show a + 1 + t = k + 1 by omega, hy0]
    · rw [if_neg htk, h.lo t (by omega)]
  · obtain rfl : t = 0 := by omega
    rw [swapL_get hx hy, if_pos (by omega), Nat.add_zero, hx0]
  · rw [swapL_get hx hy, if_neg (by omega), if_neg (by omega), h.out t (by omega)]
/-- one step down -/
theorem RotIs.down {m k : Nat} {xs ys : List α} (h : RotIs (k + 1) m (m + 1) xs ys) (hk : k < m) (hm : m < xs.length) : RotIs k m (m + 1) xs (swapL ys (k + 1) k) := by
  have hl := h.len
  obtain ⟨x, hx⟩ : ∃ x, ys[k + 1]? = some x := ⟨_, List.getElem?_eq_getElem (by omega)⟩
  obtain ⟨y, hy⟩ : ∃ y, ys[k]? = some y := ⟨_, List.getElem?_eq_getElem (by omega)⟩
  have hx0 : xs[m]? = some x := by
    have := h.lo 0 (by omega)
    rw [show k + 1 + 0 = k + 1 by omega, hx] at this
    exact this.symm
  have hy0 : xs[k]? = some y := by rw [← h.out k (by omega)]; exact hy
  refine ⟨(swapL_len _ _ _).trans hl, fun t ht => ?_, fun t ht => ?_, fun t ht => ?_, (swapL_perm _ _ _).trans h.perm⟩
  · obtain rfl : t = 0 := by omega
    rw [swapL_get hx hy, if_pos (by omega), Nat.add_zero, hx0]
  · rw [swapL_get hx hy, if_neg (by omega)]
    by_cases ht0 : t = 0
    · subst ht0
      rw [if_pos (by omega), show k + 0 = k by omega, hy0]
    · rw [if_neg (by omega)]
      have := h.hi (t - 1) (by omega)
      rw [show k + (m + 1 - m) + t = k + 1 + (m + 1 - m) + (t - 1) by omega, this, show k + 1 + (t - 1) = k + t by omega]
  · rw [swapL_get hx hy, if_neg (by omega), if_neg (by omega), h.out t (by omega)]
end
def ltT {β : Type} (due : β → Int) (x y : β × Nat) : Prop := due x.1 < due y.1 ∨ (due x.1 = due y.1 ∧ x.2 < y.2)
section
variable {β : Type} {due : β → Int}
theorem ltT.trans {x y z : β × Nat} (h : ltT due x y) (k : ltT due y z) : ltT due x z := by
  unfold ltT at *
  omega
structure InsO (due : β → Int) (a b i : Nat) (ys : List (β × Nat)) : Prop where
  ord : OrdOn (ltT due) a i ys
  idx : ∀ q r x y, a ≤ q → q < r → i ≤ r → r < b → ys[q]? = some x → ys[r]? = some y → x.2 < y.2
structure InsI (due : β → Int) (a b i j : Nat) (ys : List (β × Nat)) : Prop where
  ord : ∀ p q x y, a ≤ p → p < q → q ≤ i → p ≠ j → q ≠ j → ys[p]? = some x → ys[q]? = some y → ltT due x y
  gt : ∀ q x y, j < q → q ≤ i → ys[j]? = some x → ys[q]? = some y → ltT due x y
  lo : ∀ q x y, a ≤ q → q < j → ys[q]? = some x → ys[j]? = some y → x.2 < y.2
  idx : ∀ q r x y, a ≤ q → q < r → i < r → r < b → ys[q]? = some x → ys[r]? = some y → x.2 < y.2
theorem InsO.start {a b i : Nat} {ys : List (β × Nat)} (h : InsO due a b i ys) (hi : i < b) : InsI due a b i i ys :=
  ⟨fun p q x y h1 h2 h3 h4 h5 => h.ord p q x y h1 h2 (by omega), fun q x y h1 h2 => by omega, fun q x y h1 h2 => h.idx q i x y h1 h2 (Nat.le_refl _) hi, fun q r x y h1 h2 h3 h4 => h.idx q r x y h1 h2 (by omega) h4⟩
theorem InsI.step {a b i j : Nat} {ys : List (β × Nat)} {x y : β × Nat} (h : InsI due a b i (j + 1) ys) (ha : a ≤ j) (hji : j + 1 ≤ i) (hx : ys[j + 1]? = some x) (hy : ys[j]? = some y) (hd : due x.1 < due y.1) : InsI due a b i j (swapL ys (j + 1) j) := by
  have hg := swapL_get hx hy
  have hj0 : (swapL ys (j + 1) j)[j]? = some x := by rw [hg, if_pos rfl]
  have hj1 : (swapL ys (j + 1) j)[j + 1]? = some y := by rw [hg, if_neg (by omega), if_pos rfl]
  have hjo : ∀ k, k ≠ j → k ≠ j + 1 → (swapL ys (j + 1) j)[k]? = ys[k]? := fun k h1 h2 => by rw [hg, if_neg h1, if_neg h2]
  refine ⟨fun p q u v h1 h2 h3 h4 h5 hu hv => ?_, fun q u v h1 h2 hu hv => ?_, fun q u v h1 h2 hu hv => ?_, fun q r u v h1 h2 h3 h4 hu hv => ?_⟩
  · by_cases hp : p = j + 1
    · subst hp
      rw [hj1] at hu
      obtain rfl := Option.some.inj hu
      rw [hjo q (by omega) (by omega)] at hv
      exact h.ord j q y v ha (by omega) h3 (by omega) (by omega) hy hv
    · rw [hjo p h4 hp] at hu
      by_cases hq : q = j + 1
      · subst hq
        rw [hj1] at hv
        obtain rfl := Option.some.inj hv
        exact h.ord p j u y h1 (by omega) (by omega) hp (by omega) hu hy
      · rw [hjo q h5 hq] at hv
        exact h.ord p q u v h1 h2 h3 hp hq hu hv
  · rw [hj0] at hu
    obtain rfl := Option.some.inj hu
    by_cases hq : q = j + 1
    · subst hq
      rw [hj1] at hv
      obtain rfl := Option.some.inj hv
      exact .inl hd
    · rw [hjo q (by omega) hq] at hv
      exact h.gt q x v (by omega) h2 hx hv
  · rw [hj0] at hv
    obtain rfl := Option.some.inj hv
    rw [hjo q (by omega) (by omega)] at hu
    exact h.lo q u x h1 (by omega) hu hx
  · rw [hjo r (by omega) (by omega)] at hv
    by_cases hq : q = j
    · subst hq
      rw [hj0] at hu
      obtain rfl := Option.some.inj hu
      exact h.idx (q + 1) r x v (by omega) (by omega) h3 h4 hx hv
    · by_cases hq1 : q = j + 1
      · subst hq1
        rw [hj1] at hu
        obtain rfl := Option.some.inj hu
        exact h.idx j r y v ha (by omega) h3 h4 hy hv
      · rw [hjo q hq hq1] at hu
        exact h.idx q r u v h1 h2 h3 h4 hu hv
theorem InsI.done {a b i j : Nat} {ys : List (β × Nat)} (h : InsI due a b i j ys) (hji : j ≤ i) (hd : ∀ x y, a < j → ys[j]? = some x → ys[j - 1]? = some y → ¬ due x.1 < due y.1) : InsO due a b (i + 1) ys := by
  refine ⟨fun p q u v h1 h2 h3 hu hv => ?_, fun q r x y h1 h2 h3 h4 => h.idx q r x y h1 h2 (by omega) h4⟩
  by_cases hp : p = j
  · subst hp
    exact h.gt q u v h2 (by omega) hu hv
  · by_cases hq : q = j
    · subst hq
      have hq1 : q - 1 < ys.length := by have := (List.getElem?_eq_some_iff.1 hv).1; omega
      obtain ⟨y, hy⟩ : ∃ y, ys[q - 1]? = some y := ⟨_, List.getElem?_eq_getElem hq1⟩
      have h5 := hd v y (by omega) hv hy
      have h6 := h.lo (q - 1) y v (by omega) (by omega) hy hv
      have h7 : ltT due y v := by unfold ltT; omega
      by_cases hp1 : p = q - 1
      · subst hp1
        rw [hu] at hy
        obtain rfl := Option.some.inj hy
        exact h7
      · exact (h.ord p (q - 1) u y h1 (by omega) (by omega) hp (by omega) hu hy).trans h7
    · exact h.ord p q u v h1 h2 (by omega) hp hq hu hv
/-- before a merge: two runs in order; what stands left has the smaller numbers -/
structure MPre (due : β → Int) (a m b : Nat) (xs : List (β × Nat)) : Prop where
  lo : OrdOn (ltT due) a m xs
  hi : OrdOn (ltT due) m b xs
  idx : ∀ p q x y, a ≤ p → p < m → m ≤ q → q < b → xs[p]? = some x → xs[q]? = some y → x.2 < y.2
theorem MPre.same {a m b : Nat} {xs ys : List (β × Nat)} (h : MPre due a m b xs) (hs : ∀ i, a ≤ i → i < b → ys[i]? = xs[i]?) (hm : a ≤ m) (hb : m ≤ b) : MPre due a m b ys :=
  ⟨h.lo.same fun i h1 h2 => hs i h1 (by omega), h.hi.same fun i h1 h2 => hs i (by omega) h2, fun p q x y h1 h2 h3 h4 hx hy => h.idx p q x y h1 h2 h3 h4 (by rw [← hs p h1 (by omega)]; exact hx) (by rw [← hs q (by omega) h4]; exact hy)⟩
structure MPost (due : β → Int) (a b : Nat) (xs zs : List (β × Nat)) : Prop where
  seg : Seg a b xs zs
  ord : OrdOn (ltT due) a b zs
theorem MPost.refl {a b : Nat} {xs : List (β × Nat)} (h : OrdOn (ltT due) a b xs) : MPost due a b xs xs := ⟨Seg.refl _ _ _, h⟩
theorem MPost.join {a mid b : Nat} {ys z1 z2 : List (β × Nat)} (ha : a ≤ mid) (hb : mid ≤ b)
    (cr : ∀ p q x y, a ≤ p → p < mid → mid ≤ q → q < b → ys[p]? = some x → ys[q]? = some y → ltT due x y) (h1 : MPost due a mid ys z1) (h2 : MPost due mid b z1 z2) : MPost due a b ys z2 := by
  refine ⟨(h1.seg.mono (Nat.le_refl _) hb).trans (h2.seg.mono ha (Nat.le_refl _)), fun i j x y hi hij hj hx hy => ?_⟩
  by_cases hjm : j < mid
  · rw [h2.seg.out i (by omega)] at hx
    rw [h2.seg.out j (by omega)] at hy
    exact h1.ord i j x y hi hij hjm hx hy
  · by_cases him : i < mid
    · rw [h2.seg.out i (by omega)] at hx
      obtain ⟨p, p1, p2, hp⟩ := h1.seg.mem i x hi him hx
      obtain ⟨q, q1, q2, hq⟩ := h2.seg.mem j y (by omega) hj hy
      rw [h1.seg.out q (by omega)] at hq
      exact cr p q x y p1 p2 q1 q2 hp hq
    · exact h2.ord i j x y (by omega) hij hj hx hy
/-- where two runs are cut -/
structure Cut (due : β → Int) (a m b s e : Nat) (xs : List (β × Nat)) : Prop where
  as_ : a ≤ s
  sm : s ≤ m
  me : m ≤ e
  eb : e ≤ b
  c1 : ∀ p q x y, a ≤ p → p < s → e ≤ q → q < b → xs[p]? = some x → xs[q]? = some y → ltT due x y
  c2 : ∀ p q x y, m ≤ p → p < e → s ≤ q → q < m → xs[p]? = some x → xs[q]? = some y → ltT due x y
theorem RotIs.at1 {s m e p : Nat} {xs ys : List (β × Nat)} (r : RotIs s m e xs ys) (h : s ≤ p) (h2 : p < s + (e - m)) : ys[p]? = xs[m + (p - s)]? := by
  have := r.lo (p - s) (by omega)
  rwa [show s + (p - s) = p by omega] at this
theorem RotIs.at2 {s m e p : Nat} {xs ys : List (β × Nat)} (r : RotIs s m e xs ys) (h : s + (e - m) ≤ p) (h2 : p < s + (e - m) + (m - s)) : ys[p]? = xs[s + (p - (s + (e - m)))]? := by
  have := r.hi (p - (s + (e - m))) (by omega)
  rwa [show s + (e - m) + (p - (s + (e - m))) = p by omega] at this
theorem Cut.split {a m b s e : Nat} {xs ys : List (β × Nat)} (h : MPre due a m b xs) (c : Cut due a m b s e xs) (r : RotIs s m e xs ys) :
    MPre due a s (s + (e - m)) ys ∧ MPre due (s + (e - m)) e b ys ∧ ∀ p q x y, a ≤ p → p < s + (e - m) → s + (e - m) ≤ q → q < b → ys[p]? = some x → ys[q]? = some y → ltT due x y := by
  obtain ⟨c1, c2, c3, c4, c5, c6⟩ := c
  refine ⟨⟨fun p q x y h1 h2 h3 hx hy => ?_, fun p q x y h1 h2 h3 hx hy => ?_, fun p q x y h1 h2 h3 h4 hx hy => ?_⟩, ⟨fun p q x y h1 h2 h3 hx hy => ?_, fun p q x y h1 h2 h3 hx hy => ?_, fun p q x y h1 h2 h3 h4 hx hy => ?_⟩, fun p q x y h1 h2 h3 h4 hx hy => ?_⟩
  · rw [r.out p (by omega)] at hx
    rw [r.out q (by omega)] at hy
    exact h.lo p q x y h1 h2 (by omega) hx hy
  · rw [r.at1 (by omega) (by omega)] at hx hy
    exact h.hi _ _ x y (by omega) (by omega) (by omega) hx hy
  · rw [r.out p (by omega)] at hx
    rw [r.at1 (by omega) (by omega)] at hy
    exact h.idx _ _ x y h1 (by omega) (by omega) (by omega) hx hy
  · rw [r.at2 (by omega) (by omega)] at hx hy
    exact h.lo _ _ x y (by omega) (by omega) (by omega) hx hy
  · rw [r.out p (by omega)] at hx
    rw [r.out q (by omega)] at hy
    exact h.hi p q x y (by omega) h2 h3 hx hy
  · rw [r.at2 (by omega) (by omega)] at hx
    rw [r.out q (by omega)] at hy
    exact h.idx _ _ x y (by omega) (by omega) (by omega) h4 hx hy
  · by_cases hp : p < s
    · rw [r.out p (by omega)] at hx
      by_cases hq : q < e
      · rw [r.at2 h3 (by omega)] at hy
        exact h.lo _ _ x y h1 (by omega) (by omega) hx hy
      · rw [r.out q (by omega)] at hy
        exact c5 p q x y h1 hp (by omega) h4 hx hy
    · rw [r.at1 (by omega) h2] at hx
      by_cases hq : q < e
      · rw [r.at2 h3 (by omega)] at hy
        exact c6 _ _ x y (by omega) (by omega) (by omega) (by omega) hx hy
      · rw [r.out q (by omega)] at hy
        exact h.hi _ _ x y (by omega) (by omega) h4 hx hy
theorem MPre.left {a m b p q : Nat} {xs : List (β × Nat)} {x y : β × Nat} (h : MPre due a m b xs) (h1 : a ≤ p) (h2 : p < m) (h3 : m ≤ q) (h4 : q < b) (hx : xs[p]? = some x) (hy : xs[q]? = some y) : (due y.1 < due x.1 → ltT due y x) ∧ (¬ due y.1 < due x.1 → ltT due x y) := by
  have := h.idx p q x y h1 h2 h3 h4 hx hy
  unfold ltT
  constructor <;> intro _ <;> omega
/-- the search of the cut -/
structure Srch2 (due : β → Int) (N l0 h0 s r : Nat) (xs : List (β × Nat)) : Prop where
  ls : l0 ≤ s
  sr : s ≤ r
  rh : r ≤ h0
  below : ∀ c x y, l0 ≤ c → c < s → xs[c]? = some x → xs[N - 1 - c]? = some y → ltT due x y
  above : ∀ c x y, r ≤ c → c < h0 → xs[c]? = some x → xs[N - 1 - c]? = some y → ltT due y x
/-- what the bounds of the search say -/
structure SrchOk (a m b N l0 h0 : Nat) : Prop where
  al : a ≤ l0
  lh : l0 ≤ h0
  hm : h0 ≤ m
  mN : m + h0 ≤ N
  Nb : N ≤ b + l0
  eb : l0 = a ∨ N = b + l0
  em : h0 = m ∨ N = m + h0
theorem Srch2.start {N l0 h0 : Nat} {xs : List (β × Nat)} (h : l0 ≤ h0) : Srch2 due N l0 h0 l0 h0 xs := ⟨Nat.le_refl _, h, Nat.le_refl _, fun c x y h1 h2 => by omega, fun c x y h1 h2 => by omega⟩
theorem Srch2.up {a m b N l0 h0 s r c : Nat} {xs : List (β × Nat)} {x y : β × Nat} (ok : SrchOk a m b N l0 h0) (h : MPre due a m b xs) (k : Srch2 due N l0 h0 s r xs) (hc : s ≤ c ∧ c < r) (hx : xs[c]? = some x) (hy : xs[N - 1 - c]? = some y) (hd : ¬ due y.1 < due x.1) : Srch2 due N l0 h0 (c + 1) r xs := by
  obtain ⟨o1, o2, o3, o4, o5, _, _⟩ := ok
  have k1 := k.ls
  have k3 := k.rh
  have hxy := (h.left (by omega) (by omega) (by omega) (by omega) hx hy).2 hd
  refine ⟨by omega, by omega, k3, fun c' u v h1 h2 hu hv => ?_, k.above⟩
  by_cases hcc : c' = c
  · subst hcc
    rw [hx] at hu
    rw [hy] at hv
    obtain rfl := Option.some.inj hu
    obtain rfl := Option.some.inj hv
    exact hxy
  · have g1 := h.lo c' c u x (by omega) (by omega) (by omega) hu hx
    have g2 := h.hi (N - 1 - c) (N - 1 - c') y v (by omega) (by omega) (by omega) hy hv
    exact (g1.trans hxy).trans g2
theorem Srch2.down {a m b N l0 h0 s r c : Nat} {xs : List (β × Nat)} {x y : β × Nat} (ok : SrchOk a m b N l0 h0) (h : MPre due a m b xs) (k : Srch2 due N l0 h0 s r xs) (hc : s ≤ c ∧ c < r) (hx : xs[c]? = some x) (hy : xs[N - 1 - c]? = some y) (hd : due y.1 < due x.1) : Srch2 due N l0 h0 s c xs := by
  obtain ⟨o1, o2, o3, o4, o5, _, _⟩ := ok
  have k1 := k.ls
  have k3 := k.rh
  have hxy := (h.left (by omega) (by omega) (by omega) (by omega) hx hy).1 hd
  refine ⟨k1, hc.1, by omega, k.below, fun c' u v h1 h2 hu hv => ?_⟩
  by_cases hcc : c' = c
  · subst hcc
    rw [hx] at hu
    rw [hy] at hv
    obtain rfl := Option.some.inj hu
    obtain rfl := Option.some.inj hv
    exact hxy
  · have g1 := h.lo c c' x u (by omega) (by omega) (by omega) hx hu
    have g2 := h.hi (N - 1 - c') (N - 1 - c) v y (by omega) (by omega) (by omega) hv hy
    exact (g2.trans hxy).trans g1
theorem Srch2.cut {a m b N l0 h0 s : Nat} {xs : List (β × Nat)} (ok : SrchOk a m b N l0 h0) (h : MPre due a m b xs) (hl : b ≤ xs.length) (k : Srch2 due N l0 h0 s s xs) : Cut due a m b s (N - s) xs := by
  obtain ⟨o1, o2, o3, o4, o5, o6, o7⟩ := ok
  have k1 := k.ls
  have k3 := k.rh
  refine ⟨by omega, by omega, by omega, by omega, fun p q x y h1 h2 h3 h4 hx hy => ?_, fun p q x y h1 h2 h3 h4 hx hy => ?_⟩
  · have hs : l0 < s := by omega
    obtain ⟨u, hu⟩ : ∃ u, xs[s - 1]? = some u := ⟨_, List.getElem?_eq_getElem (by omega)⟩
    obtain ⟨v, hv⟩ : ∃ v, xs[N - s]? = some v := ⟨_, List.getElem?_eq_getElem (by omega)⟩
    have g := k.below (s - 1) u v (by omega) (by omega) hu (by rw [show N - 1 - (s - 1) = N - s by omega]; exact hv)
    have g1 : p = s - 1 ∨ ltT due x u := by
      by_cases hp : p = s - 1
      · exact .inl hp
      · exact .inr (h.lo p (s - 1) x u h1 (by omega) (by omega) hx hu)
    have g2 : q = N - s ∨ ltT due v y := by
      by_cases hq : q = N - s
      · exact .inl hq
      · exact .inr (h.hi (N - s) q v y (by omega) (by omega) h4 hv hy)
    have e1 : ltT due x v := by
      rcases g1 with rfl | g1
      · rw [hu] at hx
        obtain rfl := Option.some.inj hx
        exact g
      · exact g1.trans g
    rcases g2 with rfl | g2
    · rw [hv] at hy
      obtain rfl := Option.some.inj hy
      exact e1
    · exact e1.trans g2
  · have hs : s < h0 := by omega
    obtain ⟨u, hu⟩ : ∃ u, xs[s]? = some u := ⟨_, List.getElem?_eq_getElem (by omega)⟩
    obtain ⟨v, hv⟩ : ∃ v, xs[N - 1 - s]? = some v := ⟨_, List.getElem?_eq_getElem (by omega)⟩
    have g := k.above s u v (Nat.le_refl _) hs hu hv
    have g1 : p = N - 1 - s ∨ ltT due x v := by
      by_cases hp : p = N - 1 - s
      · exact .inl hp
      · exact .inr (h.hi p (N - 1 - s) x v h1 (by omega) (by omega) hx hv)
    have g2 : q = s ∨ ltT due u y := by
      by_cases hq : q = s
      · exact .inl hq
      · exact .inr (h.lo s q u y (by omega) (by omega) h4 hu hy)
    have e1 : ltT due x u := by
      rcases g1 with rfl | g1
      · rw [hv] at hx
        obtain rfl := Option.some.inj hx
        exact g
      · exact g1.trans g
    rcases g2 with rfl | g2
    · rw [hu] at hy
      obtain rfl := Option.some.inj hy
      exact e1
    · exact e1.trans g2
/-- one element on the left -/
theorem MPre.one1 {a b i : Nat} {xs ys : List (β × Nat)} (h : MPre due a (a + 1) b xs) (hi : a + 1 ≤ i ∧ i ≤ b) (c1 : ∀ p x y, a + 1 ≤ p → p < i → xs[a]? = some x → xs[p]? = some y → ltT due y x) (c2 : ∀ p x y, i ≤ p → p < b → xs[a]? = some x → xs[p]? = some y → ltT due x y) (r : RotIs a (a + 1) i xs ys) : MPost due a b xs ys := by
  refine ⟨(r.seg (by omega) hi.1).mono (Nat.le_refl _) hi.2, fun p q x y h1 h2 h3 hx hy => ?_⟩
  by_cases hp : p < i - 1
  · rw [r.at1 h1 (by omega)] at hx
    by_cases hq : q < i - 1
    · rw [r.at1 (by omega) (by omega)] at hy
      exact h.hi _ _ x y (by omega) (by omega) (by omega) hx hy
    · by_cases hq1 : q < i
      · rw [r.at2 (by omega) (by omega), show a + (q - (a + (i - (a + 1)))) = a by omega] at hy
        exact c1 _ y x (by omega) (by omega) hy hx
      · rw [r.out q (by omega)] at hy
        exact h.hi _ _ x y (by omega) (by omega) h3 hx hy
  · by_cases hp1 : p < i
    · rw [r.at2 (by omega) (by omega), show a + (p - (a + (i - (a + 1)))) = a by omega] at hx
      rw [r.out q (by omega)] at hy
      exact c2 q x y (by omega) h3 hx hy
    · rw [r.out p (by omega)] at hx
      rw [r.out q (by omega)] at hy
      exact h.hi p q x y (by omega) h2 h3 hx hy
/-- one element on the right -/
theorem MPre.one2 {a m i : Nat} {xs ys : List (β × Nat)} (h : MPre due a m (m + 1) xs) (hi : a ≤ i ∧ i ≤ m) (c1 : ∀ p x y, a ≤ p → p < i → xs[p]? = some x → xs[m]? = some y → ltT due x y) (c2 : ∀ p x y, i ≤ p → p < m → xs[p]? = some x → xs[m]? = some y → ltT due y x) (r : RotIs i m (m + 1) xs ys) : MPost due a (m + 1) xs ys := by
  refine ⟨(r.seg hi.2 (by omega)).mono hi.1 (Nat.le_refl _), fun p q x y h1 h2 h3 hx hy => ?_⟩
  by_cases hp : p < i
  · rw [r.out p (by omega)] at hx
    by_cases hq : q < i
    · rw [r.out q (by omega)] at hy
      exact h.lo p q x y h1 h2 (by omega) hx hy
    · by_cases hq1 : q = i
      · rw [r.at1 (by omega) (by omega), show m + (q - i) = m by omega] at hy
        exact c1 p x y h1 hp hx hy
      · rw [r.at2 (by omega) (by omega)] at hy
        exact h.lo p _ x y h1 (by omega) (by omega) hx hy
  · rw [r.at2 (p := q) (by omega) (by omega)] at hy
    by_cases hp1 : p = i
    · rw [r.at1 (by omega) (by omega), show m + (p - i) = m by omega] at hx
      exact c2 _ y x (by omega) (by omega) hy hx
    · rw [r.at2 (by omega) (by omega)] at hx
      exact h.lo _ _ x y (by omega) (by omega) (by omega) hx hy
end
end Go.Proofs.Ytpnefacignalpaa
