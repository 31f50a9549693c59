/- slices.Clone at numbers; a number stored into an own row. Conditions: those typed. -/
import Derived.Test.YtnnbnecpcppkdaaDoorCtlBase
namespace Go.Proofs.YtnnbnecpcppkdaaDoor
open Go.RowKit Go.Gy
set_option linter.unusedVariables false
def CloneIs (w : World) (l : List Q3) (e : Ending) (w' : World) : Prop := ∃ v', e = .returned v' ∧ w'.ownsRow w.heap.size 25 3 v' l.length (l.flatMap encQ) ∧ Below w.heap.size w w'
theorem encQ_one (l : List Q3) : ∀ u ∈ l.flatMap encQ, u.oneCell' = true := by
  intro u hu
  obtain ⟨x, _, hx⟩ := List.mem_flatMap.1 hu
  simp only [encQ, List.mem_cons, List.not_mem_nil, or_false] at hx
  rcases hx with rfl | rfl | rfl <;> rfl
set_option maxRecDepth 100000 in
set_option maxHeartbeats 2000000 in
theorem clone_rats (w : World) (v : Value) (l : List Q3) (hx : SlQ w w.heap.size v l) (hb : l.length ≤ 1099511627776) :
    Calls Tryd.prog 76 #[v] w (CloneIs w l) := by
  obtain ⟨i0, hi, hi1⟩ := Option.map_eq_some_iff.1 info_rat
  injection hi1 with hz0 hi1
  injection hi1 with hz1 hz2
  obtain ⟨A, n, c, rfl, hxl, hnc, hA, hr⟩ := hx
  have he := fun w => Lib.run_eql_slice_nil (P := Tryd.prog) w 48 25 A n c 0 0 Tryd.underlying48
  cases A with
  | none =>
    have hc := hA rfl
    subst hc
    obtain rfl : n = 0 := by omega
    have hx0 : l = [] := List.eq_nil_of_length_eq_zero hxl
    subst hx0
    have HX := Lib.hid (show CloneIs w [] (.returned (.slice none 0 0)) w from ⟨_, rfl, World.ownsRow_nil _ _ _ _, Below.refl _ _⟩)
    clear hr hA hnc hxl
    go_enter Tryd.func76, Tryd.ntmps76
    go_wp2
    go_ret
    exact HX.out
  | some ad =>
    clear hA
    subst hxl
    go_enter Tryd.func76, Tryd.ntmps76
    go_wp2_with (at_builtin; refine wpList_extend rfl (.tmp 5) (.tmp 6) 48 rfl w.heap.size 25 i0 (.agg #[.bool false, .string { data := #[] }, .string { data := #[] }]) 3 40 Tryd.underlying48 hi hz0 hz1 hz2 rfl (by omega) _ _ _ rfl (World.ownsRow_lit w #[] 0 (Nat.le_refl _) (by omega) rfl) (some ad) l.length c w.heap.size (l.flatMap encQ) rfl (fun h => by cases h) (hr.alloc (Nat.le_refl _) _) (encQ_one l) (by unfold maxLen; omega) (by omega) (by simp) ?_; intro v1 w1 hown1 hb1)
    have HX := Lib.hid (show CloneIs w l (.returned v1) w1 from ⟨_, rfl, by simpa using hown1, ((Below.refl _ _).alloc (Nat.le_refl _) _).trans hb1⟩)
    obtain ⟨A1, c1, rfl, _, _, _⟩ := own_rd hown1
    clear hown1 hb1
    go_wp2
    go_ret
    exact HX.out
theorem set3 (q : Q3) : ∀ (l : List Q3) (i : Nat), i < l.length → (((l.flatMap encQ).set (i * 3) (.bool q.neg)).set (i * 3 + 1) (.string q.num)).set (i * 3 + 2) (.string q.den) = (l.set i q).flatMap encQ
  | [], i, h => absurd h (Nat.not_lt_zero i)
  | x :: l, 0, _ => by simp [encQ]
  | x :: l, i + 1, h => by
    have ih := set3 q l i (by simpa using h)
    rw [List.flatMap_cons, List.set_cons_succ, List.flatMap_cons, ← ih]
    simp only [encQ, List.cons_append, List.nil_append]
    rw [show (i + 1) * 3 = i * 3 + 1 + 1 + 1 by omega]
    simp only [List.set_cons_succ, show i * 3 + 1 + 1 + 1 + 1 = (i * 3 + 1) + 1 + 1 + 1 by omega, show i * 3 + 1 + 1 + 1 + 2 = (i * 3 + 2) + 1 + 1 + 1 by omega]
theorem own_set3 {w : World} {base g cap n : Nat} {e : TypeId} {l : List Q3} (h : w.ownsRow base e 3 (.slice (some ⟨g, 0, none⟩) n cap) n (l.flatMap encQ)) {i : Nat} (hi : i < l.length) (q : Q3) :
    (((w.setCell ⟨g, i * 3, none⟩ (.bool q.neg)).setCell ⟨g, i * 3 + 1, none⟩ (.string q.num)).setCell ⟨g, i * 3 + 2, none⟩ (.string q.den)).ownsRow base e 3 (.slice (some ⟨g, 0, none⟩) n cap) n ((l.set i q).flatMap encQ) := by
  rw [← set3 q l i hi]
  exact (((h.stored (i * 3) (.bool q.neg)).1.stored (i * 3 + 1) (.string q.num)).1.stored (i * 3 + 2) (.string q.den)).1
theorem grown3 (W : World) (g a b c : Nat) (x y z : Value) : W.grownBy (((W.setCell ⟨g, a, none⟩ x).setCell ⟨g, b, none⟩ y).setCell ⟨g, c, none⟩ z) (some g) :=
  grown_trans2 (grown_trans2 (grown_set W g a x) (grown_set _ g b y)) (grown_set _ g c z)
end Go.Proofs.YtnnbnecpcppkdaaDoor
