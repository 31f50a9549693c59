/- LogTells's loop over the records' lengths, as plain data: its fault is All's. No condition but those typed. -/
import Derived.Test.YtbeemdlgjiclcaaAddPlain
namespace Go.Proofs.Ytbeemdlgjiclcaa
set_option linter.unusedVariables false

/-- one round: how many bytes so far, the fault so far -/
def tell1 (s : Nat × Nat) (r : List Nat) : Nat × Nat :=
  let f1 := if s.2 = 0 ∧ 2000 < r.length then 2 else s.2
  (s.1 + (6 + r.length), if f1 = 0 ∧ 100000 < s.1 + (6 + r.length) then 6 else f1)
theorem tell_stays : ∀ (rs : List (List Nat)) (a f : Nat), f ≠ 0 → (rs.foldl tell1 (a, f)).2 = f
  | [], a, f, _ => rfl
  | r :: rs, a, f, h => by
    have e : tell1 (a, f) r = (a + (6 + r.length), f) := by simp [tell1, h]
    rw [List.foldl_cons, e]
    exact tell_stays rs _ f h
theorem tell_law : ∀ (rs ps : List (List Nat)), (∀ q ∈ ps, q.length ≤ 2000 ∧ ∀ x ∈ q, x < 256) → (∀ q ∈ rs, ∀ x ∈ q, x < 256) → (rs.foldl tell1 ((bookF 0 ps).length, 0)).2 = (allF (bookF 0 ps) rs).2
  | [], ps, _, _ => rfl
  | r :: rs, ps, hp, h8 => by
    have hs : (scanL (bookF 0 ps)).2.1 = (bookF 0 ps).length := by rw [scan_book hp]
    rw [List.foldl_cons]
    unfold allF
    by_cases he : addE (bookF 0 ps) r = 0
    · obtain ⟨h1, h2⟩ := addE_zero he
      rw [hs] at h2
      rw [if_pos he, add_book hp he]
      have hl : (bookF 0 (ps ++ [r])).length = (bookF 0 ps).length + (6 + r.length) := by rw [bookF_append, List.length_append]; simp [bookF, enc1_len]
      have e : tell1 ((bookF 0 ps).length, 0) r = ((bookF 0 (ps ++ [r])).length, 0) := by
        rw [hl]
        unfold tell1
        simp only
        rw [if_neg (by omega), if_neg (by omega)]
      rw [e]
      exact tell_law rs (ps ++ [r]) (fun q hq => by
        simp only [List.mem_append, List.mem_singleton] at hq
        rcases hq with hq | rfl
        · exact hp q hq
        · exact ⟨h1, h8 q (by simp)⟩) (fun q hq => h8 q (by simp [hq]))
    · rw [if_neg he]
      have e : tell1 ((bookF 0 ps).length, 0) r = ((bookF 0 ps).length + (6 + r.length), addE (bookF 0 ps) r) := by
        unfold tell1 addE
        rw [hs]
        simp only
        unfold addE at he
        rw [hs] at he
        by_cases hb : 2000 < r.length
        · simp [hb]
        · rw [if_neg hb] at he
          have hf : 100000 < (bookF 0 ps).length + 6 + r.length := by
            refine Classical.byContradiction fun h => he ?_
            rw [if_neg h]
          have hf' : 100000 < (bookF 0 ps).length + (6 + r.length) := by omega
          simp [hb, hf, hf']
      rw [e, tell_stays _ _ _ he]
theorem allF_nil : ∀ (rs : List (List Nat)) (out : List Nat), (allF out rs).2 ≠ 0 → (allF out rs).1 = []
  | [], out, h => absurd rfl h
  | r :: rs, out, h => by
    unfold allF at h ⊢
    by_cases he : addE out r = 0
    · rw [if_pos he] at h ⊢; exact allF_nil rs _ h
    · rw [if_neg he]
theorem addB_book {b r : List Nat} (h8 : ∀ x ∈ b, x < 256) (he : addE b r = 0) : addB b r = bookF 0 ((scanL b).1 ++ [r]) := by
  obtain ⟨h1, h2, h3, h4, h5⟩ := scanL_spec h8
  unfold addB
  rw [if_pos he, h1, h4, bookF_append]
  simp [bookF, enc1]
theorem book_six : ∀ (last : Nat) (rs : List (List Nat)), 6 * rs.length ≤ (bookF last rs).length
  | _, [] => by simp [bookF]
  | last, r :: rs => by
    have h2 := book_six (rsum last r) rs
    simp only [bookF, List.length_append, enc1_len, List.length_cons]
    omega
theorem allF_few {rs : List (List Nat)} (h8 : ∀ q ∈ rs, ∀ x ∈ q, x < 256) (he : (allF [] rs).2 = 0) : (allF [] rs).1 = bookF 0 rs ∧ rs.length ≤ 16666 ∧ (bookF 0 rs).length ≤ 100000 ∧ ∀ q ∈ rs, q.length ≤ 2000 ∧ ∀ x ∈ q, x < 256 := by
  obtain ⟨h1, h2, h3⟩ := all_book rs [] (by simp) h8 he
  have h6 := book_six 0 rs
  refine ⟨h1, ?_, ?_, fun q hq => ⟨h2 q hq, h8 q hq⟩⟩
  · cases rs with
    | nil => simp
    | cons r rs => have := h3 (by simp); simp only [List.nil_append] at this; omega
  · cases rs with
    | nil => simp [bookF]
    | cons r rs => have := h3 (by simp); simpa using this
end Go.Proofs.Ytbeemdlgjiclcaa
