/- Small laws that the controllers' texts use. Conditions: those typed. -/
import Derived.Test.YtnnbnecpcppkdaaDoorArmMk
import Derived.Test.YtnnbnecpcppkdaaDoorReadings
namespace Go.Proofs.YtnnbnecpcppkdaaDoor
open Go.RowKit Go.Gy
set_option linter.unusedVariables false
theorem In.all4 {w W : World} {a b : List (Nat × TypeId × Array Value)} {g : Nat} {t : TypeId} {x0 x1 x2 x3 : Value} (h : In w (a ++ (g, t, #[x0, x1, x2, x3]) :: b) W) (u0 u1 u2 u3 : Value) :
    In w (a ++ (g, t, #[u0, u1, u2, u3]) :: b) ((((W.setCell ⟨g, 0, none⟩ u0).setCell ⟨g, 1, none⟩ u1).setCell ⟨g, 2, none⟩ u2).setCell ⟨g, 3, none⟩ u3) := by
  replace h : In w (a ++ (g, t, #[u0, x1, x2, x3]) :: b) (W.setCell ⟨g, 0, none⟩ u0) := h.set 0 u0
  replace h : In w (a ++ (g, t, #[u0, u1, x2, x3]) :: b) ((W.setCell ⟨g, 0, none⟩ u0).setCell ⟨g, 1, none⟩ u1) := h.set 1 u1
  replace h : In w (a ++ (g, t, #[u0, u1, u2, x3]) :: b) (((W.setCell ⟨g, 0, none⟩ u0).setCell ⟨g, 1, none⟩ u1).setCell ⟨g, 2, none⟩ u2) := h.set 2 u2
  exact h.set 3 u3
theorem grown4 (W : World) (g : Nat) (u0 u1 u2 u3 : Value) : W.grownBy ((((W.setCell ⟨g, 0, none⟩ u0).setCell ⟨g, 1, none⟩ u1).setCell ⟨g, 2, none⟩ u2).setCell ⟨g, 3, none⟩ u3) (some g) :=
  grown_trans2 (grown_trans2 (grown_trans2 (grown_set W g 0 _) (grown_set _ g 1 _)) (grown_set _ g 2 _)) (grown_set _ g 3 _)
theorem rowQ_can (l : List Rat) {m : Q3} (hm : m.can) {q : Rat} (hq : m.q = q) : rowQ (l ++ [q]) = rowQ l ++ [.bool m.neg, .string m.num, .string m.den] := by
  have h : m = toQ3 m.q := hm
  rw [rowQ_snoc, ← hq]
  have h1 : m.neg = qn m.q := congrArg Q3.neg h
  have h2 : m.num = qs m.q := congrArg Q3.num h
  have h3 : m.den = qt m.q := congrArg Q3.den h
  rw [← h1, ← h2, ← h3]
theorem own_base {w : World} {base base' : Nat} {e : TypeId} {size n : Nat} {v : Value} {xs : List Value} (h : w.ownsRow base' e size v n xs) (hb : base ≤ base') : w.ownsRow base e size v n xs := by
  obtain ⟨h1, h2 | ⟨g, cap, cur, h2, h3, h4⟩⟩ := h
  · exact ⟨h1, .inl h2⟩
  · exact ⟨h1, .inr ⟨g, cap, cur, h2, Nat.le_trans hb h3, h4⟩⟩
theorem SlQ.row {w : World} {base n : Nat} {v : Value} {r : List Rat} (h : w.ownsRow base 25 3 v n (rowQ r)) : SlQ w w.heap.size v (r.map toQ3) := SlQ.own h
theorem qz_sub (x y : Rat) : qz (x - y) ≤ qz x + qz y + 1 := by rw [Rat.sub_eq_add_neg]; have := qz_add x (-y); rw [qz_neg] at this; exact this
theorem GenLk.brake {k : Lk} {l : List P2} (h : GenLk k l) : 0 < k.brake.q ∧ 1 ≤ 100 * k.brake.q ∧ k.brake.q ≤ 1 := by
  obtain ⟨c, a, e, d, f, zs, _, _, _, _, hf, ⟨_, _, _, _, hb⟩, _⟩ := h
  rw [hb]
  obtain ⟨m, hm⟩ : ∃ m, m = (10 + f).toNat := ⟨_, rfl⟩
  rw [← hm]
  have hm1 : 10 ≤ m ∧ m ≤ 29 := by omega
  have key : ∀ m : Fin 30, 10 ≤ m.val → (0 < mkRat 1 m.val ∧ 1 ≤ 100 * mkRat 1 m.val ∧ mkRat 1 m.val ≤ 1) := by decide +kernel
  exact key ⟨m, by omega⟩ hm1.1
end Go.Proofs.YtnnbnecpcppkdaaDoor
