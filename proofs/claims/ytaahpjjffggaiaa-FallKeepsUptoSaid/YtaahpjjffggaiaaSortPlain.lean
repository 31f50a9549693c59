/- Sorted lists of cells, as plain data. No condition but those typed. -/
import Derived.Test.YtaahpjjffggaiaaCellPlain
namespace Go.Proofs.Ytaahpjjffggaiaa
set_option linter.unusedVariables false
def ltC (a b : Cell) : Prop := a.2 < b.2 ∨ a.2 = b.2 ∧ a.1 < b.1
theorem ltC_irrefl (a : Cell) : ¬ ltC a a := by unfold ltC; omega
theorem ltC_trans {a b c : Cell} (h1 : ltC a b) (h2 : ltC b c) : ltC a c := by unfold ltC at *; omega
theorem ltC_tri (a b : Cell) : ltC a b ∨ a = b ∨ ltC b a := by
  obtain ⟨a1, a2⟩ := a
  obtain ⟨b1, b2⟩ := b
  unfold ltC
  simp only [Prod.mk.injEq]
  omega
instance (a b : Cell) : Decidable (ltC a b) := by unfold ltC; infer_instance
abbrev SortC (l : List Cell) : Prop := l.Pairwise ltC
def insC (c : Cell) : List Cell → List Cell
  | [] => [c]
  | x :: l => if ltC c x then c :: x :: l else if c = x then x :: l else x :: insC c l
def sortC (l : List Cell) : List Cell := l.foldr insC []
theorem mem_insC {c x : Cell} : ∀ {l : List Cell}, x ∈ insC c l ↔ x = c ∨ x ∈ l
  | [] => by simp [insC]
  | y :: l => by
    unfold insC
    split
    · simp
    · split
      · rename_i h; subst h; simp
      · simp only [List.mem_cons, mem_insC (l := l)]
        constructor
        · rintro (h | h | h)
          · exact .inr (.inl h)
          · exact .inl h
          · exact .inr (.inr h)
        · rintro (h | h | h)
          · exact .inr (.inl h)
          · exact .inl h
          · exact .inr (.inr h)
theorem mem_sortC {x : Cell} : ∀ {l : List Cell}, x ∈ sortC l ↔ x ∈ l
  | [] => by simp [sortC]
  | y :: l => by
    show x ∈ insC y (sortC l) ↔ _
    rw [mem_insC, mem_sortC, List.mem_cons]
theorem sorted_insC (c : Cell) : ∀ {l : List Cell}, SortC l → SortC (insC c l)
  | [], _ => by simp [insC, SortC]
  | y :: l, h => by
    have h' := List.pairwise_cons.1 h
    unfold insC
    split
    · rename_i h1
      refine List.pairwise_cons.2 ⟨fun z hz => ?_, h⟩
      rcases List.mem_cons.1 hz with rfl | hz
      · exact h1
      · exact ltC_trans h1 (h'.1 z hz)
    · rename_i h1
      split
      · exact h
      · rename_i h2
        refine List.pairwise_cons.2 ⟨fun z hz => ?_, sorted_insC c h'.2⟩
        rcases mem_insC.1 hz with rfl | hz
        · rcases ltC_tri z y with h3 | h3 | h3
          · exact absurd h3 h1
          · exact absurd h3 h2
          · exact h3
        · exact h'.1 z hz
theorem sorted_sortC : ∀ (l : List Cell), SortC (sortC l)
  | [] => by simp [sortC, SortC]
  | y :: l => sorted_insC y (sorted_sortC l)
theorem sort_unique : ∀ (a b : List Cell), SortC a → SortC b → (∀ x, x ∈ a ↔ x ∈ b) → a = b
  | [], [], _, _, _ => rfl
  | [], y :: b, _, _, h => by have := (h y).2 (by simp); simp at this
  | x :: a, [], _, _, h => by have := (h x).1 (by simp); simp at this
  | x :: a, y :: b, ha, hb, h => by
    have ha' := List.pairwise_cons.1 ha
    have hb' := List.pairwise_cons.1 hb
    have hxy : x = y := by
      have h1 := (h x).1 (by simp)
      have h2 := (h y).2 (by simp)
      rcases List.mem_cons.1 h1 with h3 | h3
      · exact h3
      · rcases List.mem_cons.1 h2 with h4 | h4
        · exact h4.symm
        · exact absurd (ltC_trans (ha'.1 y h4) (hb'.1 x h3)) (ltC_irrefl x)
    subst hxy
    rw [sort_unique a b ha'.2 hb'.2 fun z => ?_]
    constructor
    · intro hz
      rcases List.mem_cons.1 ((h z).1 (List.mem_cons_of_mem _ hz)) with h3 | h3
      · subst h3; exact absurd (ha'.1 z hz) (ltC_irrefl z)
      · exact h3
    · intro hz
      rcases List.mem_cons.1 ((h z).2 (List.mem_cons_of_mem _ hz)) with h3 | h3
      · subst h3; exact absurd (hb'.1 z hz) (ltC_irrefl z)
      · exact h3
theorem sortC_of_sorted {l : List Cell} (h : SortC l) : sortC l = l := sort_unique _ _ (sorted_sortC l) h fun _ => mem_sortC
theorem onI_range (x : Int) : onI x = true ↔ -64 ≤ x ∧ x < 64 := by simp [onI]
def onC (c : Cell) : Prop := (-64 ≤ c.1 ∧ c.1 < 64) ∧ (-64 ≤ c.2 ∧ c.2 < 64)
theorem cellsG_sorted : ∀ (l : List Cell) (p : Option Cell), cellsG p l = 0 ↔ (∀ c ∈ l, onC c) ∧ SortC l ∧ ∀ q, p = some q → ∀ c ∈ l, ltC q c
  | [], p => by simp [cellsG, SortC]
  | c :: l, p => by
    unfold cellsG
    by_cases h1 : (onI c.1 && onI c.2) = false
    · rw [if_pos h1]
      constructor
      · intro h; cases h
      · rintro ⟨h2, _⟩
        have := h2 c (by simp)
        rw [Bool.and_eq_false_iff] at h1
        rcases h1 with h1 | h1
        · have h3 := (onI_range c.1).2 this.1; rw [h1] at h3; cases h3
        · have h3 := (onI_range c.2).2 this.2; rw [h1] at h3; cases h3
    · rw [if_neg h1]
      have hon : onC c := by
        have h2 : (onI c.1 && onI c.2) = true := by simpa using h1
        rw [Bool.and_eq_true] at h2
        exact ⟨(onI_range _).1 h2.1, (onI_range _).1 h2.2⟩
      by_cases h3 : lateC p c = true
      · rw [if_pos h3]
        constructor
        · intro h; cases h
        · rintro ⟨_, _, h4⟩
          cases p with
          | none => simp [lateC] at h3
          | some q =>
            have h5 := h4 q rfl c (by simp)
            simp only [lateC, decide_eq_true_eq] at h3
            have := (ordC_neg q c).2 h5
            omega
      · rw [if_neg h3, cellsG_sorted l (some c)]
        have hpc : ∀ q, p = some q → ltC q c := by
          rintro q rfl
          simp only [lateC, decide_eq_true_eq] at h3
          exact (ordC_neg q c).1 (by omega)
        constructor
        · rintro ⟨h4, h5, h6⟩
          refine ⟨fun x hx => ?_, List.pairwise_cons.2 ⟨fun x hx => h6 c rfl x hx, h5⟩, fun q hq x hx => ?_⟩
          · rcases List.mem_cons.1 hx with rfl | hx
            · exact hon
            · exact h4 x hx
          · rcases List.mem_cons.1 hx with rfl | hx
            · exact hpc q hq
            · exact ltC_trans (hpc q hq) (h6 c rfl x hx)
        · rintro ⟨h4, h5, h6⟩
          have h5' := List.pairwise_cons.1 h5
          exact ⟨fun x hx => h4 x (List.mem_cons_of_mem _ hx), h5'.2, fun q hq x hx => by injection hq with hq; subst hq; exact h5'.1 x hx⟩
theorem cellsF_sorted (l : List Cell) : cellsF l = 0 ↔ l.length ≤ 400 ∧ (∀ c ∈ l, onC c) ∧ SortC l := by
  unfold cellsF
  by_cases h : 400 < l.length
  · rw [if_pos h]
    constructor
    · intro h; cases h
    · intro h'; omega
  · rw [if_neg h, cellsG_sorted]
    constructor
    · rintro ⟨h1, h2, _⟩; exact ⟨by omega, h1, h2⟩
    · rintro ⟨_, h1, h2⟩; exact ⟨h1, h2, fun q hq => by cases hq⟩
end Go.Proofs.Ytaahpjjffggaiaa
