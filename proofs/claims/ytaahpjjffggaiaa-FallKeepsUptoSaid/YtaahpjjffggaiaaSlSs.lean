/- Slices of rows of bytes; the log's add as plain data. No condition but those typed. -/
import Derived.Test.YtaahpjjffggaiaaAdd
namespace Go.Proofs.Ytaahpjjffggaiaa
open Go.RowKit Go.Gy
set_option linter.unusedVariables false

/-- a slice of slices of bytes -/
def SlSs (w : World) (B : Nat) (v : Value) (rs : List (List Nat)) : Prop := ∃ A n c vs, v = .slice A n c ∧ rs.length = n ∧ n ≤ c ∧ (A = none → c = 0) ∧ Rd w B 1 A n vs ∧ SlsB w B vs rs
theorem SlSs.below {w w' : World} {B : Nat} {v : Value} {rs : List (List Nat)} (h : SlSs w B v rs) (hb : Below B w w') : SlSs w' B v rs := by
  obtain ⟨A, n, c, vs, h1, h2, h3, h4, h5, h6⟩ := h
  exact ⟨A, n, c, vs, h1, h2, h3, h4, h5.below hb, h6.below hb⟩
theorem SlSs.more {w : World} {B B' : Nat} {v : Value} {rs : List (List Nat)} (h : SlSs w B v rs) (hB : B ≤ B') : SlSs w B' v rs := by
  obtain ⟨A, n, c, vs, h1, h2, h3, h4, h5, h6⟩ := h
  exact ⟨A, n, c, vs, h1, h2, h3, h4, h5.more hB, h6.more hB⟩
theorem SlSs.own {w : World} {base n : Nat} {v : Value} {vs : List Value} {rs : List (List Nat)} (h : w.ownsRow base 33 1 v n vs) (hs : SlsB w w.heap.size vs rs) : SlSs w w.heap.size v rs := by
  obtain ⟨A, c, rfl, h1, _, h2⟩ := own_rd h
  have hl := h.1
  exact ⟨A, n, c, vs, rfl, by rw [← hs.1, hl, Nat.mul_one], h1, fun hA => (own_none h hA).2, h2, hs⟩
theorem SlsB.one {w : World} {B : Nat} {vs : List Value} {rs : List (List Nat)} (h : SlsB w B vs rs) : ∀ u ∈ vs, u.oneCell' = true := by
  intro u hu
  obtain ⟨i, hi, rfl⟩ := List.getElem_of_mem hu
  obtain ⟨A, n, c, e, _⟩ := h.2 i _ (rs[i]'(by rw [← h.1]; exact hi)) (List.getElem?_eq_getElem hi) (List.getElem?_eq_getElem _)
  rw [e]; rfl

theorem addB_len {b r : List Nat} (h : addE b r = 0) (h8 : ∀ x ∈ b, x < 256) : (addB b r).length = (scanL b).2.1 + 6 + r.length := by
  have h2 := (scanL_spec h8).2.1
  unfold addB
  rw [if_pos h]
  simp [be2, be4]
  omega
theorem addB_lt {b r : List Nat} (h8 : ∀ x ∈ b, x < 256) (hr8 : ∀ x ∈ r, x < 256) : ∀ x ∈ addB b r, x < 256 := by
  intro x hx
  unfold addB at hx
  split at hx
  · simp only [List.mem_append] at hx
    rcases hx with hx | hx | hx | hx
    · exact h8 x (List.mem_of_mem_take hx)
    · exact be2_lt _ x hx
    · exact hr8 x hx
    · exact be4_lt _ x hx
  · simp at hx
end Go.Proofs.Ytaahpjjffggaiaa
