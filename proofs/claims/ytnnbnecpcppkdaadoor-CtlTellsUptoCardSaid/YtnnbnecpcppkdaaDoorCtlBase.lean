/- Small laws that the controllers' texts use. Conditions: those typed. -/
import Derived.Test.YtnnbnecpcppkdaaDoorArmChk
import Derived.Test.YtnnbnecpcppkdaaDoorReadings
namespace Go.Proofs.YtnnbnecpcppkdaaDoor
open Go.RowKit Go.Gy
set_option linter.unusedVariables false
theorem info_link : (Tryd.prog.info? 28).map (fun i => (i.zero, i.size, i.bytes)) = some (some (.agg #[.bool false, .string { data := #[] }, .string { data := #[] }, .bool false, .string { data := #[] }, .string { data := #[] }, .bool false, .string { data := #[] }, .string { data := #[] }, .bool false, .string { data := #[] }, .string { data := #[] }, .bool false, .string { data := #[] }, .string { data := #[] }, .slice none 0 0]), 16, 224) := by kernel_rfl
theorem grown_set (W : World) (g i : Nat) (u : Value) : W.grownBy (W.setCell ⟨g, i, none⟩ u) (some g) := by
  exact ⟨rfl, rfl, rfl, (by rw [World.size_setCell]; exact Nat.le_refl _), fun k _ hk => Below.heap_setCell _ _ _ k (fun e => hk (by rw [e]))⟩
theorem own_type {w : World} {base g n size : Nat} {e : TypeId} {v : Value} {xs : List Value} (h : w.ownsRow base e size v n xs) (hg : v.ownBlock = some g) {t : TypeId} {cs : Array Value} (hk : Blk w g t cs) : t = e := by
  obtain ⟨hl, ⟨hv, _⟩ | ⟨g', cap', cur, hv, _, hh, _⟩⟩ := h
  · subst hv; cases hg
  · subst hv
    injection hg with hg
    subst hg
    have := hk.symm.trans hh
    injection this with this
    injection this with _ h2
theorem grown_trans2 {W W1 W2 : World} {g : Nat} (h : W.grownBy W1 (some g)) (h2 : W1.grownBy W2 (some g)) : W.grownBy W2 (some g) := by
  obtain ⟨a1, a2, a3, a4, a5⟩ := h
  obtain ⟨b1, b2, b3, b4, b5⟩ := h2
  exact ⟨b1.trans a1, b2.trans a2, b3.trans a3, Nat.le_trans a4 b4, fun k hk hne => (b5 k (Nat.lt_of_lt_of_le hk a4) hne).trans (a5 k hk hne)⟩
theorem rowQ_can (l : List Rat) {m : Q3} (hm : m.can) {q : Rat} (hq : m.q = q) : rowQ (l ++ [q]) = rowQ l ++ [.bool m.neg, .string m.num, .string m.den] := by
  have h : m = toQ3 m.q := hm
  rw [rowQ_snoc, ← hq]
  have h1 : m.neg = qn m.q := congrArg Q3.neg h
  have h2 : m.num = qs m.q := congrArg Q3.num h
  have h3 : m.den = qt m.q := congrArg Q3.den h
  rw [← h1, ← h2, ← h3]
theorem own_base {w : World} {base base' : Nat} {e : TypeId} {size n : Nat} {v : Value} {xs : List Value} (h : w.ownsRow base' e size v n xs) (hb : base ≤ base') : w.ownsRow base e size v n xs := by
  obtain ⟨h1, h2 | ⟨g, cap, cur, h2, h3, h4⟩⟩ := h
  · exact ⟨h1, .inl h2⟩
  · exact ⟨h1, .inr ⟨g, cap, cur, h2, Nat.le_trans hb h3, h4⟩⟩
theorem SlQ.row {w : World} {base n : Nat} {v : Value} {r : List Rat} (h : w.ownsRow base 25 3 v n (rowQ r)) : SlQ w w.heap.size v (r.map toQ3) := SlQ.own h
theorem qz_sub (x y : Rat) : qz (x - y) ≤ qz x + qz y + 1 := by rw [Rat.sub_eq_add_neg]; have := qz_add x (-y); rw [qz_neg] at this; exact this
end Go.Proofs.YtnnbnecpcppkdaaDoor
