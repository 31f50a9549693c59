/- The checks of cells and of messages, as plain data. No condition but those typed. -/
import Derived.Test.YtambngbkegnghaaCells
namespace Go.Proofs.Ytambngbkegnghaa
open Go.RowKit Go.Gy
set_option linter.unusedVariables false

/-- a coordinate on the grid; cmp.Compare at integers; cells by Y, then by X -/
def onI (x : Int) : Bool := decide (-64 ≤ x) && decide (x < 64)
def cmpI (a b : Int) : Int := if a < b then -1 else if b < a then 1 else 0
def ordC (a b : Cell) : Int := if cmpI a.2 b.2 = 0 then cmpI a.1 b.1 else cmpI a.2 b.2
theorem cmpI_cases (a b : Int) : cmpI a b = -1 ∧ a < b ∨ cmpI a b = 1 ∧ b < a ∨ cmpI a b = 0 ∧ a = b := by
  unfold cmpI
  by_cases h : a < b
  · rw [if_pos h]; exact .inl ⟨rfl, h⟩
  · rw [if_neg h]
    by_cases h' : b < a
    · rw [if_pos h']; exact .inr (.inl ⟨rfl, h'⟩)
    · rw [if_neg h']; exact .inr (.inr ⟨rfl, by omega⟩)
theorem ordC_neg (a b : Cell) : ordC a b < 0 ↔ a.2 < b.2 ∨ a.2 = b.2 ∧ a.1 < b.1 := by
  unfold ordC
  have h1 := cmpI_cases a.2 b.2
  have h2 := cmpI_cases a.1 b.1
  split <;> omega
theorem ordC_range (a b : Cell) : -1 ≤ ordC a b ∧ ordC a b ≤ 1 := by
  unfold ordC
  have h1 := cmpI_cases a.2 b.2
  have h2 := cmpI_cases a.1 b.1
  split <;> omega
/-- is c not behind the one before? -/
def lateC : Option Cell → Cell → Bool
  | none, _ => false
  | some q, c => decide (0 ≤ ordC q c)
def cellsG : Option Cell → List Cell → Nat
  | _, [] => 0
  | p, c :: l => if (onI c.1 && onI c.2) = false then 17 else if lateC p c = true then 9 else cellsG (some c) l
def cellsF (l : List Cell) : Nat := if 400 < l.length then 2 else cellsG none l
end Go.Proofs.Ytambngbkegnghaa
