/- The searches of a symmetric merge, plain. Conditions: those typed. -/
import Derived.Test.YtpnefacignalpaaStablePlain
namespace Go.Proofs.Ytpnefacignalpaa
set_option linter.unusedVariables false
section
variable {β : Type} {due : β → Int}
/-- one element on the left: where it belongs -/
structure Bs1 (due : β → Int) (a b i j : Nat) (xs : List (β × Nat)) : Prop where
  c1 : ∀ p x y, a + 1 ≤ p → p < i → xs[a]? = some x → xs[p]? = some y → ltT due y x
  c2 : ∀ p x y, j ≤ p → p < b → xs[a]? = some x → xs[p]? = some y → ltT due x y
theorem Bs1.start (a b : Nat) (xs : List (β × Nat)) : Bs1 due a b (a + 1) b xs := ⟨fun p x y h1 h2 => by omega, fun p x y h1 h2 => by omega⟩
theorem Bs1.up {a b i j h : Nat} {xs : List (β × Nat)} {x y : β × Nat} (k : Bs1 due a b i j xs) (hm : MPre due a (a + 1) b xs) (ha : a + 1 ≤ h) (hb : h < b) (hx : xs[a]? = some x) (hy : xs[h]? = some y) (hd : due y.1 < due x.1) : Bs1 due a b (h + 1) j xs := by
  have hl := (hm.left (Nat.le_refl _) (by omega) ha hb hx hy).1 hd
  refine ⟨fun p u v h1 h2 hu hv => ?_, k.c2⟩
  rw [hx] at hu
  obtain rfl := Option.some.inj hu
  by_cases hp : p = h
  · subst hp
    rw [hy] at hv
    obtain rfl := Option.some.inj hv
    exact hl
  · exact (hm.hi p h v y h1 (by omega) hb hv hy).trans hl
theorem Bs1.down {a b i j h : Nat} {xs : List (β × Nat)} {x y : β × Nat} (k : Bs1 due a b i j xs) (hm : MPre due a (a + 1) b xs) (ha : a + 1 ≤ h) (hb : h < b) (hx : xs[a]? = some x) (hy : xs[h]? = some y) (hd : ¬ due y.1 < due x.1) : Bs1 due a b i h xs := by
  have hl := (hm.left (Nat.le_refl _) (by omega) ha hb hx hy).2 hd
  refine ⟨k.c1, fun p u v h1 h2 hu hv => ?_⟩
  rw [hx] at hu
  obtain rfl := Option.some.inj hu
  by_cases hp : p = h
  · subst hp
    rw [hy] at hv
    obtain rfl := Option.some.inj hv
    exact hl
  · exact hl.trans (hm.hi h p y v ha (by omega) h2 hy hv)
/-- one element on the right: where it belongs -/
structure Bs2 (due : β → Int) (a m i j : Nat) (xs : List (β × Nat)) : Prop where
  c1 : ∀ p x y, a ≤ p → p < i → xs[p]? = some x → xs[m]? = some y → ltT due x y
  c2 : ∀ p x y, j ≤ p → p < m → xs[p]? = some x → xs[m]? = some y → ltT due y x
theorem Bs2.start (a m : Nat) (xs : List (β × Nat)) : Bs2 due a m a m xs := ⟨fun p x y h1 h2 => by omega, fun p x y h1 h2 => by omega⟩
theorem Bs2.up {a m i j h : Nat} {xs : List (β × Nat)} {x y : β × Nat} (k : Bs2 due a m i j xs) (hm : MPre due a m (m + 1) xs) (ha : a ≤ h) (hb : h < m) (hx : xs[h]? = some x) (hy : xs[m]? = some y) (hd : ¬ due y.1 < due x.1) : Bs2 due a m (h + 1) j xs := by
  have hl := (hm.left ha hb (Nat.le_refl _) (by omega) hx hy).2 hd
  refine ⟨fun p u v h1 h2 hu hv => ?_, k.c2⟩
  rw [hy] at hv
  obtain rfl := Option.some.inj hv
  by_cases hp : p = h
  · subst hp
    rw [hx] at hu
    obtain rfl := Option.some.inj hu
    exact hl
  · exact (hm.lo p h u x h1 (by omega) hb hu hx).trans hl
theorem Bs2.down {a m i j h : Nat} {xs : List (β × Nat)} {x y : β × Nat} (k : Bs2 due a m i j xs) (hm : MPre due a m (m + 1) xs) (ha : a ≤ h) (hb : h < m) (hx : xs[h]? = some x) (hy : xs[m]? = some y) (hd : due y.1 < due x.1) : Bs2 due a m i h xs := by
  have hl := (hm.left ha hb (Nat.le_refl _) (by omega) hx hy).1 hd
  refine ⟨k.c1, fun p u v h1 h2 hu hv => ?_⟩
  rw [hy] at hv
  obtain rfl := Option.some.inj hv
  by_cases hp : p = h
  · subst hp
    rw [hx] at hu
    obtain rfl := Option.some.inj hu
    exact hl
  · exact hl.trans (hm.lo h p x u ha (by omega) h2 hx hu)
/-- the bounds with which the search begins, where the middle lies left or right of m -/
theorem SrchOk.right {a m b mid : Nat} (h1 : a < m) (h2 : m < b) (hmid : mid = (a + b) / 2) (hm : mid < m) : SrchOk a m b (mid + m) (mid + m - b) mid := ⟨by omega, by omega, by omega, by omega, by omega, .inr (by omega), .inr (by omega)⟩
theorem SrchOk.left {a m b mid : Nat} (h1 : a < m) (h2 : m < b) (hmid : mid = (a + b) / 2) (hm : m ≤ mid) : SrchOk a m b (mid + m) a m := ⟨by omega, by omega, by omega, by omega, by omega, .inl rfl, .inl rfl⟩
/-- the first part behind the cut, merged or in order already -/
theorem MPre.none1 {a s mid : Nat} {ys : List (β × Nat)} (h : MPre due a s mid ys) (has : a ≤ s) (hn : ¬ (a < s ∧ s < mid)) (hsm : s ≤ mid) : MPost due a mid ys ys := by
  refine MPost.refl ?_
  by_cases h1 : s = a
  · subst h1; exact h.hi
  · have : s = mid := by omega
    subst this; exact h.lo
theorem MPost.all {a s m e b mid : Nat} {xs ys z1 z2 : List (β × Nat)} (hp : MPre due a m b xs) (c : Cut due a m b s e xs) (r : RotIs s m e xs ys) (hmid : s + (e - m) = mid) (h1 : MPost due a mid ys z1) (h2 : MPost due mid b z1 z2) : MPost due a b xs z2 := by
  obtain ⟨q1, q2, q3⟩ := c.split hp r
  rw [hmid] at q3
  obtain ⟨c1, c2, c3, c4, _, _⟩ := c
  have hj := MPost.join (a := a) (mid := mid) (b := b) (by omega) (by omega) q3 h1 h2
  exact ⟨((r.seg c2 c3).mono c1 c4).trans hj.seg, hj.ord⟩
theorem MPre.next {a e b mid : Nat} {ys z1 : List (β × Nat)} (h : MPre due mid e b ys) (h1 : MPost due a mid ys z1) (hme : mid ≤ e) (heb : e ≤ b) : MPre due mid e b z1 := h.same (fun i hi _ => h1.seg.out i (by omega)) hme heb
end
end Go.Proofs.Ytpnefacignalpaa
