/- What RingTells begins with: a small ring, the faults counted row by row, its closure. Conditions: those typed. -/
import Derived.Test.YtgmjeanoohmdlaaWayBack
import Derived.Test.YtgmjeanoohmdlaaOrder
namespace Go.Proofs.Ytgmjeanoohmdlaa
open Go.RowKit Go.Gy Go.WideShapes
set_option linter.unusedVariables false
set_option maxRecDepth 100000 in
theorem arg_introwsl {H : Type} {enc : TypeId × Value → H} {W : World} {v : Value} {d : DataW H} {p : List MemPlace} {r : Go.Reach} {b0 : Nat} (hv : Value.okWide Try.prog W r b0 26 v) (h : DataW.Trod enc Try.prog W 0 (fun _ => true) true 26 v d p)
    (hw : ∀ m ∈ d.weights Try.prog 26, m ≤ reachBytes) : IntRowsArg W v (bulk d) := by
  obtain ⟨a, n, c, rfl⟩ := okWide_slice Try.underlying26 hv
  exact sliceOf_introws rfl (view (opens_slice Try.underlying26 (by kernel_rfl) (by omega) (by kernel_rfl) (opens_ints W)) h hw)
/-! [][]int{{1}, {0}} -/
theorem ed2 {i k : Nat} : Ed [[1], [0]] i k ↔ (i = 0 ∧ k = 1) ∨ (i = 1 ∧ k = 0) := by
  constructor
  · rintro ⟨r, h1, h2⟩
    match i with
    | 0 => simp at h1; subst h1; simp at h2; exact .inl ⟨rfl, by omega⟩
    | 1 => simp at h1; subst h1; simp at h2; exact .inr ⟨rfl, by omega⟩
    | i + 2 => simp at h1
  · rintro (⟨rfl, rfl⟩ | ⟨rfl, rfl⟩)
    · exact ⟨[1], rfl, by simp⟩
    · exact ⟨[0], rfl, by simp⟩
theorem reach2 (i : Nat) : decide (i < 2) = true ↔ Reach [[1], [0]] i i := by
  rw [decide_eq_true_eq]
  constructor
  · intro h
    match i with
    | 0 => exact .more (.one (ed2.2 (.inl ⟨rfl, rfl⟩))) (ed2.2 (.inr ⟨rfl, rfl⟩))
    | 1 => exact .more (.one (ed2.2 (.inr ⟨rfl, rfl⟩))) (ed2.2 (.inl ⟨rfl, rfl⟩))
    | i + 2 => omega
  · intro h
    cases h with
    | one h => have := ed2.1 h; omega
    | more _ h => have := ed2.1 h; omega
theorem good2 : GoodG [[1], [0]] := ⟨by simp, by intro r hr x hx; simp at hr; rcases hr with rfl | rfl <;> (simp at hx; subst hx; simp), by simp⟩
set_option maxRecDepth 100000 in
theorem find2 (w : World) (v : Value) (hv : RowsI w w.heap.size v [[1], [0]]) : Calls Try.prog 6 #[v] w (OwnIE w [0, 1]) := by
  have h := find_some w v [[1], [0]] hv good2 (fun i => decide (i < 2)) reach2 0 [1] (by decide) 2 (by omega) (by simp) (.more (ed2.2 (.inl ⟨rfl, rfl⟩)) (.one (ed2.2 (.inr ⟨rfl, rfl⟩)))) (fun d' hd hw => by
    have h1 := hw.pos
    have : d' = 1 := by omega
    subst this
    generalize hq : 1 = q at hw
    cases hw with
    | one h => have := ed2.1 h; omega
    | more _ h => have := h.pos; omega)
  have e : wayK [[1], [0]] (farK [[1], [0]] 0 2) (2 - 1) ((0 : Nat) : Int) = [1] := by decide
  rw [e] at h
  exact h
theorem rows_pair (w : World) : RowsI (((w.alloc (.cells #[.int .i64 1] 3)).alloc (.cells #[.int .i64 0] 3)).alloc (.cells #[.slice (some ⟨w.heap.size, 0, none⟩) 1 1, .slice (some ⟨w.heap.size + 1, 0, none⟩) 1 1] 22)) (w.heap.size + 3) (.slice (some ⟨w.heap.size + 2, 0, none⟩) 2 2) [[1], [0]] := by
  have h1 := Rd.lit w 3 [iv 1] 1 1 rfl
  have h2 := Rd.lit (w.alloc (.cells #[iv 1] 3)) 3 [iv 0] 1 1 rfl
  have h3 := Rd.lit ((w.alloc (.cells #[iv 1] 3)).alloc (.cells #[iv 0] 3)) 22 [.slice (some ⟨w.heap.size, 0, none⟩) 1 1, .slice (some ⟨w.heap.size + 1, 0, none⟩) 1 1] 1 2 rfl
  rw [World.size_alloc, World.size_alloc] at h3
  rw [World.size_alloc] at h2
  refine ⟨_, 2, 2, [.slice (some ⟨w.heap.size, 0, none⟩) 1 1, .slice (some ⟨w.heap.size + 1, 0, none⟩) 1 1], rfl, rfl, Nat.le_refl _, (fun h => by cases h), h3, rfl, fun i v r hv hr => ?_⟩
  match i with
  | 0 =>
    simp at hv hr
    subst hv hr
    exact ⟨_, 1, 1, rfl, rfl, Nat.le_refl _, (fun h => by cases h), ((h1.alloc (by rw [World.size_alloc]; exact Nat.le_refl _) _).alloc (by rw [World.size_alloc, World.size_alloc]; omega) _).more (by omega)⟩
  | 1 =>
    simp at hv hr
    subst hv hr
    exact ⟨_, 1, 1, rfl, rfl, Nat.le_refl _, (fun h => by cases h), (h2.alloc (by rw [World.size_alloc, World.size_alloc]; exact Nat.le_refl _) _).more (by omega)⟩
  | i + 2 => simp at hv
/-- the fault after k rows -/
def faultK (rs : List (List Int)) (k : Nat) : Nat := if 64 < rs.length then 2 else if (rs.take k).any (fun r => r.any (badK rs.length)) = true then 1 else 0
theorem faultK_all (rs : List (List Int)) : faultK rs rs.length = checkR rs := by unfold faultK checkR; rw [List.take_length]
theorem faultK_le (rs : List (List Int)) (k : Nat) : faultK rs k ≤ 2 := by unfold faultK; split <;> (try split) <;> omega
theorem faultK_stay {rs : List (List Int)} {k : Nat} (h : faultK rs k ≠ 0) : faultK rs (k + 1) = faultK rs k := by
  unfold faultK at h ⊢
  by_cases h64 : 64 < rs.length
  · rw [if_pos h64, if_pos h64]
  · rw [if_neg h64] at h ⊢
    rw [if_neg h64]
    by_cases ha : (rs.take k).any (fun r => r.any (badK rs.length)) = true
    · rw [if_pos ha, if_pos]
      rw [List.any_eq_true] at ha ⊢
      obtain ⟨r, hr, hb⟩ := ha
      exact ⟨r, by rw [List.take_add_one]; exact List.mem_append_left _ hr, hb⟩
    · rw [if_neg ha] at h; exact absurd rfl h
theorem faultK_next {rs : List (List Int)} {k : Nat} {r : List Int} (h : faultK rs k = 0) (hr : rs[k]? = some r) : faultK rs (k + 1) = if r.any (badK rs.length) = true then 1 else 0 := by
  unfold faultK at h ⊢
  by_cases h64 : 64 < rs.length
  · rw [if_pos h64] at h; cases h
  · rw [if_neg h64] at h ⊢
    by_cases ha : (rs.take k).any (fun r => r.any (badK rs.length)) = true
    · rw [if_pos ha] at h; cases h
    · have e : (rs.take (k + 1)).any (fun r => r.any (badK rs.length)) = r.any (badK rs.length) := by
        rw [List.take_add_one, hr, List.any_append]
        have : (rs.take k).any (fun r => r.any (badK rs.length)) = false := by simpa using ha
        rw [this]; simp
      rw [e]
theorem faultK_zero (rs : List (List Int)) : faultK rs 0 = if 64 < rs.length then 2 else 0 := by unfold faultK; simp
set_option maxRecDepth 100000 in
theorem closure_tells (w : World) (x : Int) (b n c : Nat) (A : Option Addr) (hc : w.cell? ⟨b, 0, none⟩ = some (.slice A n c)) (hn : n ≤ 140737488355328) :
    Calls Try.prog 13 #[iv x, .pointer (some ⟨b, 0, none⟩)] w fun e w' => e = .returned (.bool (badK n x)) ∧ w = w' := by
  by_cases h0 : x < 0
  · have e := badK_true (n := n) (k := x) (.inl h0)
    rw [e]
    clear e
    go_enter Try.func13, Try.ntmps13
    go_wp2_with fail
    go_ret
    exact ⟨rfl, rfl⟩
  · by_cases h1 : (n : Int) ≤ x
    · have e := badK_true (n := n) (k := x) (.inr h1)
      rw [e]
      clear e
      go_enter Try.func13, Try.ntmps13
      go_wp2_with fail
      go_ret
      exact ⟨rfl, rfl⟩
    · have e := badK_false (n := n) (k := x) (by omega)
      rw [e]
      clear e
      go_enter Try.func13, Try.ntmps13
      go_wp2_with fail
      go_ret
      exact ⟨rfl, rfl⟩
end Go.Proofs.Ytgmjeanoohmdlaa
