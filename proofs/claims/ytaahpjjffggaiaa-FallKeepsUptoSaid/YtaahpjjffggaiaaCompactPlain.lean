/- slices.Compact in words of lists; compacting a sorted list is sortC. Conditions: those typed. -/
import Derived.Test.YtaahpjjffggaiaaSortPlain
namespace Go.Proofs.Ytaahpjjffggaiaa
set_option linter.unusedVariables false
/-- a list without what equals the one before it; p: the one before -/
def cptG : Option Cell → List Cell → List Cell
  | _, [] => []
  | p, c :: l => if p = some c then cptG (some c) l else c :: cptG (some c) l
def cpt (l : List Cell) : List Cell := cptG none l
theorem cptG_snoc : ∀ (l : List Cell) (p : Option Cell) (c : Cell), cptG p (l ++ [c]) = if (match l.getLast? with | some d => some d | none => p) = some c then cptG p l else cptG p l ++ [c]
  | [], p, c => by by_cases h : p = some c <;> simp [cptG, h]
  | d :: l, p, c => by
    have ih := cptG_snoc l (some d) c
    have e : (match (d :: l).getLast? with | some d => some d | none => p) = (match l.getLast? with | some x => some x | none => some d) := by
      cases l with
      | nil => rfl
      | cons x l =>
        rw [List.getLast?_cons_cons]
        cases h : (x :: l).getLast? with
        | none => simp at h
        | some y => rfl
    rw [e]
    simp only [List.cons_append, cptG]
    rw [ih]
    by_cases h1 : p = some d
    · simp only [if_pos h1]
    · simp only [if_neg h1]
      split <;> (simp only [Option.some.injEq]; split <;> simp)
theorem cpt_take (l : List Cell) (i : Nat) (hi : 0 < i) (x y : Cell) (hx : l[i - 1]? = some x) (hy : l[i]? = some y) : cpt (l.take (i + 1)) = if x = y then cpt (l.take i) else cpt (l.take i) ++ [y] := by
  have hlt : i < l.length := by
    rcases Nat.lt_or_ge i l.length with h | h
    · exact h
    · rw [List.getElem?_eq_none h] at hy; cases hy
  rw [List.take_add_one, hy]
  unfold cpt
  simp only [Option.toList_some]
  rw [cptG_snoc]
  have e : (l.take i).getLast? = some x := by
    rw [List.getLast?_eq_getElem?, List.length_take, Nat.min_eq_left (by omega), List.getElem?_take, if_pos (by omega)]
    exact hx
  rw [e]
  by_cases h : x = y
  · simp [h]
  · simp [h]
theorem mem_cptG {x : Cell} : ∀ (l : List Cell) (p : Option Cell), x ∈ l → x ∈ cptG p l ∨ p = some x
  | [], _, h => by cases h
  | c :: l, p, h => by
    unfold cptG
    rcases List.mem_cons.1 h with rfl | h'
    · by_cases hp : p = some x
      · exact .inr hp
      · rw [if_neg hp]; exact .inl (by simp)
    · rcases mem_cptG l (some c) h' with h2 | h2
      · left; split
        · exact h2
        · simp [h2]
      · injection h2 with h2
        subst h2
        by_cases hp : p = some c
        · exact .inr hp
        · rw [if_neg hp]; exact .inl (by simp)
theorem cptG_sub {x : Cell} : ∀ (l : List Cell) (p : Option Cell), x ∈ cptG p l → x ∈ l
  | [], _, h => by cases h
  | c :: l, p, h => by
    unfold cptG at h
    split at h
    · exact List.mem_cons_of_mem _ (cptG_sub l _ h)
    · rcases List.mem_cons.1 h with h' | h'
      · simp [h']
      · exact List.mem_cons_of_mem _ (cptG_sub l _ h')
theorem cptG_sorted : ∀ (l : List Cell) (p : Option Cell), (∀ q, p = some q → ∀ c ∈ l, ¬ ltC c q) → l.Pairwise (fun a b => ¬ ltC b a) → SortC (cptG p l) ∧ ∀ q, p = some q → ∀ c ∈ cptG p l, ltC q c
  | [], p, _, _ => ⟨List.Pairwise.nil, fun _ _ _ h => by cases h⟩
  | c :: l, p, hp, hl => by
    rw [List.pairwise_cons] at hl
    obtain ⟨h1, h2⟩ := cptG_sorted l (some c) (fun q hq d hd => by injection hq with hq; subst hq; exact hl.1 d hd) hl.2
    unfold cptG
    by_cases hpc : p = some c
    · rw [if_pos hpc]
      exact ⟨h1, fun q hq d hd => h2 q (hpc.symm.trans hq) d hd⟩
    · rw [if_neg hpc]
      refine ⟨List.pairwise_cons.2 ⟨fun d hd => h2 c rfl d hd, h1⟩, fun q hq d hd => ?_⟩
      have hqc : ltC q c := by
        rcases ltC_tri q c with h | h | h
        · exact h
        · subst h; exact absurd hq hpc
        · exact absurd h (hp q hq c (by simp))
      rcases List.mem_cons.1 hd with rfl | hd'
      · exact hqc
      · exact ltC_trans hqc (h2 c rfl d hd')
theorem cpt_sorted {l : List Cell} (h : l.Pairwise (fun a b => ¬ ltC b a)) : cpt l = sortC l := by
  refine sort_unique _ _ (cptG_sorted l none (fun q hq => by cases hq) h).1 (sorted_sortC l) fun x => ?_
  rw [mem_sortC]
  exact ⟨cptG_sub l none, fun hx => (mem_cptG l none hx).resolve_right (fun h => by cases h)⟩
end Go.Proofs.Ytaahpjjffggaiaa
