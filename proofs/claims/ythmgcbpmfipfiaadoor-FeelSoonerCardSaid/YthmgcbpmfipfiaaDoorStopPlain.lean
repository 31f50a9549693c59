/- What feel.Stop reckons, plain. Conditions: those typed. -/
import Derived.Test.YthmgcbpmfipfiaaDoorQs
namespace Go.Proofs.YthmgcbpmfipfiaaDoor
/-- reading k must stop the arm -/
def stopAt (lim jump : Rat) (l : List Rat) (k : Nat) : Prop := ∃ x, l[k]? = some x ∧ (lim < absQ x ∨ ∃ y, 0 < k ∧ l[k - 1]? = some y ∧ jump < absQ (x - y))
/-- the first reading that stops it: what feel.Stop returns -/
def StopIs (lim jump : Rat) (l : List Rat) (i : Int) : Prop := (∃ k : Nat, i = k ∧ stopAt lim jump l k ∧ ∀ j, j < k → ¬ stopAt lim jump l j) ∨ (i = -1 ∧ ∀ j, ¬ stopAt lim jump l j)
theorem stopAt_lt {lim jump : Rat} {l : List Rat} {k : Nat} (h : stopAt lim jump l k) : k < l.length := by
  obtain ⟨x, hx, _⟩ := h
  exact (List.getElem?_eq_some_iff.1 hx).1
theorem StopIs.unique {lim jump : Rat} {l : List Rat} {i j : Int} (h : StopIs lim jump l i) (h' : StopIs lim jump l j) : i = j := by
  rcases h with ⟨k, rfl, h1, h2⟩ | ⟨rfl, h1⟩
  · rcases h' with ⟨k', rfl, h3, h4⟩ | ⟨rfl, h3⟩
    · rcases Nat.lt_trichotomy k k' with h | h | h
      · exact absurd h1 (h4 k h)
      · rw [h]
      · exact absurd h3 (h2 k' h)
    · exact absurd h1 (h3 k)
  · rcases h' with ⟨k', rfl, h3, h4⟩ | ⟨rfl, h3⟩
    · exact absurd h3 (h1 k')
    · rfl
/-- what is allowed less stops no later -/
theorem stopAt_less {lim jump lim' jump' : Rat} {l : List Rat} {k : Nat} (h1 : lim' ≤ lim) (h2 : jump' ≤ jump) (h : stopAt lim jump l k) : stopAt lim' jump' l k := by
  obtain ⟨x, hx, h | ⟨y, hk, hy, h⟩⟩ := h
  · exact ⟨x, hx, .inl (by grind)⟩
  · exact ⟨x, hx, .inr ⟨y, hk, hy, by grind⟩⟩
/-- readings left out at the end -/
theorem stopAt_take {lim jump : Rat} {l : List Rat} {k n : Nat} (hk : k < n) : stopAt lim jump (l.take n) k ↔ stopAt lim jump l k := by
  unfold stopAt
  rw [List.getElem?_take, if_pos hk]
  have : (l.take n)[k - 1]? = l[k - 1]? := by rw [List.getElem?_take, if_pos (by omega)]
  rw [this]
theorem sooner_law {lim jump lim' jump' : Rat} {l : List Rat} {k : Nat} {x y z : Int} (h1 : lim' ≤ lim) (h2 : jump' ≤ jump) (hx : StopIs lim jump l x) (hy : StopIs lim' jump' l y) (hz : StopIs lim jump (l.take k) z) :
    (0 ≤ x ∧ x < k → z = x) ∧ (¬ (0 ≤ x ∧ x < k) → z = -1) ∧ (x < 0 ∨ (0 ≤ y ∧ y ≤ x)) := by
  refine ⟨?_, ?_, ?_⟩
  · rintro ⟨h3, h4⟩
    rcases hx with ⟨m, rfl, h5, h6⟩ | ⟨rfl, _⟩
    · refine StopIs.unique hz (.inl ⟨m, rfl, (stopAt_take (by omega)).mpr h5, fun j hj h => h6 j hj ((stopAt_take (by omega)).mp h)⟩)
    · omega
  · intro h3
    refine StopIs.unique hz (.inr ⟨rfl, fun j h => ?_⟩)
    have hj : j < k := by have := stopAt_lt h; rw [List.length_take] at this; omega
    have h4 := (stopAt_take hj).mp h
    rcases hx with ⟨m, rfl, h5, h6⟩ | ⟨rfl, h5⟩
    · rcases Nat.lt_or_ge j m with h7 | h7
      · exact h6 j h7 h4
      · exact h3 ⟨by omega, by omega⟩
    · exact h5 j h4
  · rcases hx with ⟨m, rfl, h5, h6⟩ | ⟨rfl, h5⟩
    · refine .inr ?_
      rcases hy with ⟨m', rfl, h7, h8⟩ | ⟨rfl, h7⟩
      · refine ⟨by omega, ?_⟩
        rcases Nat.lt_or_ge m m' with h9 | h9
        · exact absurd (stopAt_less h1 h2 h5) (h8 m h9)
        · omega
      · exact absurd (stopAt_less h1 h2 h5) (h7 m)
    · exact .inl (by omega)
end Go.Proofs.YthmgcbpmfipfiaaDoor
