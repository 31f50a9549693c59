/- The checks of cells and of messages, as plain data. No condition but those typed. -/
import Derived.Test.YtpnefacignalpaaMsg
namespace Go.Proofs.Ytpnefacignalpaa
open Go.RowKit Go.Gy
set_option linter.unusedVariables false

/-- a coordinate on the grid; cmp.Compare at integers; cells by Y, then by X -/
def onI (x : Int) : Bool := decide (-64 ≤ x) && decide (x < 64)
def cmpI (a b : Int) : Int := if a < b then -1 else if b < a then 1 else 0
def ordC (a b : Cell) : Int := if cmpI a.2 b.2 = 0 then cmpI a.1 b.1 else cmpI a.2 b.2
theorem cmpI_cases (a b : Int) : cmpI a b = -1 ∧ a < b ∨ cmpI a b = 1 ∧ b < a ∨ cmpI a b = 0 ∧ a = b := by
  unfold cmpI
  by_cases h : a < b
  · rw [if_pos h]; exact .inl ⟨rfl, h⟩
  · rw [if_neg h]
    by_cases h' : b < a
    · rw [if_pos h']; exact .inr (.inl ⟨rfl, h'⟩)
    · rw [if_neg h']; exact .inr (.inr ⟨rfl, by omega⟩)
theorem ordC_neg (a b : Cell) : ordC a b < 0 ↔ a.2 < b.2 ∨ a.2 = b.2 ∧ a.1 < b.1 := by
  unfold ordC
  have h1 := cmpI_cases a.2 b.2
  have h2 := cmpI_cases a.1 b.1
  split <;> omega
theorem ordC_range (a b : Cell) : -1 ≤ ordC a b ∧ ordC a b ≤ 1 := by
  unfold ordC
  have h1 := cmpI_cases a.2 b.2
  have h2 := cmpI_cases a.1 b.1
  split <;> omega
/-- is c not behind the one before? -/
def lateC : Option Cell → Cell → Bool
  | none, _ => false
  | some q, c => decide (0 ≤ ordC q c)
def cellsG : Option Cell → List Cell → Nat
  | _, [] => 0
  | p, c :: l => if (onI c.1 && onI c.2) = false then 17 else if lateC p c = true then 9 else cellsG (some c) l
def cellsF (l : List Cell) : Nat := if 400 < l.length then 2 else cellsG none l
/-- the check of all but the cells; of all -/
def msgF0 (m : GMsg) : Nat :=
  if m.kind < 0 ∨ 3 < m.kind then 1 else
  if m.src < 0 ∨ 4 < m.src ∨ m.dst < 0 ∨ 4 < m.dst ∨ m.src = m.dst then 16 else
  if m.seq < 0 ∨ 2147483647 < m.seq then 2 else
  if m.kind = 3 ∧ m.cells ≠ [] then 3 else 0
def msgF (m : GMsg) : Nat := if msgF0 m = 0 then cellsF m.cells else msgF0 m
theorem msgF_zero {m : GMsg} (h : msgF m = 0) : msgF0 m = 0 ∧ cellsF m.cells = 0 := by
  unfold msgF at h
  split at h
  · exact ⟨by assumption, h⟩
  · exact absurd h (by assumption)
theorem msgF0_zero {m : GMsg} (h : msgF0 m = 0) : 0 ≤ m.kind ∧ m.kind ≤ 3 ∧ 0 ≤ m.src ∧ m.src ≤ 4 ∧ 0 ≤ m.dst ∧ m.dst ≤ 4 ∧ m.src ≠ m.dst ∧ 0 ≤ m.seq ∧ m.seq ≤ 2147483647 ∧ (m.kind = 3 → m.cells = []) := by
  unfold msgF0 at h
  split at h
  · cases h
  split at h
  · cases h
  split at h
  · cases h
  split at h
  · cases h
  rename_i h1 h2 h3 h4
  refine ⟨by omega, by omega, by omega, by omega, by omega, by omega, by omega, by omega, by omega, fun hk => ?_⟩
  exact Classical.byContradiction fun hc => h4 ⟨hk, hc⟩
theorem cellsG_on : ∀ (l : List Cell) (p : Option Cell), cellsG p l = 0 → ∀ c ∈ l, -64 ≤ c.1 ∧ c.1 < 64 ∧ -64 ≤ c.2 ∧ c.2 < 64
  | [], _, _, c, hc => by simp at hc
  | x :: l, p, h, c, hc => by
    unfold cellsG at h
    split at h
    · cases h
    split at h
    · cases h
    rename_i h1 _
    simp only [List.mem_cons] at hc
    rcases hc with rfl | hc
    · simp [onI] at h1; omega
    · exact cellsG_on l _ h c hc
theorem cellsF_zero {l : List Cell} (h : cellsF l = 0) : l.length ≤ 400 ∧ ∀ c ∈ l, -64 ≤ c.1 ∧ c.1 < 64 ∧ -64 ≤ c.2 ∧ c.2 < 64 := by
  unfold cellsF at h
  split at h
  · cases h
  · exact ⟨by omega, cellsG_on l none h⟩

end Go.Proofs.Ytpnefacignalpaa
