/- A region that draws its order and ends in 'x = append(x, f()...)': one call, one append; all else is known. Conditions: those typed. -/
import Derived.Test.YtpnefacignalpaaInvJ
namespace Go.Proofs.Ytpnefacignalpaa
open Go Go.RowKit
set_option linter.unusedVariables false
structure CapJ (det : Nat → Option Value) (a1 c1 : Nat) (R0 : World → Prop) (C : Value → World → Prop) (R1 : Value → World → Prop) (s : Nat → Bool) (vs : Nat → Value) (W : World) : Prop where
  dt : ∀ i u, s i = true → det i = some u → vs i = u
  w0 : s a1 = false → R0 W ∧ s c1 = false
  w1 : s a1 = true → s c1 = false → C (vs a1) W
  w2 : s c1 = true → R1 (vs c1) W
section
variable {det : Nat → Option Value} {a1 c1 : Nat} {R0 : World → Prop} {C R1 : Value → World → Prop} {s : Nat → Bool} {vs : Nat → Value} {W W' : World}
theorem CapJ.start (h : R0 W) : CapJ det a1 c1 R0 C R1 (fun _ => false) (fun _ => undef) W := ⟨fun i u h => (by cases h), fun _ => ⟨h, rfl⟩, fun h => (by cases h), fun h => (by cases h)⟩
/-- in whatever world: what holds of all three -/
theorem CapJ.all (h : CapJ det a1 c1 R0 C R1 s vs W) {X : World → Prop} (h0 : ∀ W, R0 W → X W) (h1 : ∀ v W, C v W → X W) (h2 : ∀ v W, R1 v W → X W) : X W := by
  cases e1 : s c1 with
  | true => exact h2 _ _ (h.w2 e1)
  | false =>
    cases e0 : s a1 with
    | false => exact h0 _ (h.w0 e0).1
    | true => exact h1 _ _ (h.w1 e0 e1)
theorem CapJ.same (h : CapJ det a1 c1 R0 C R1 s vs W) {i : Nat} {u : Value} (hi : i ≠ a1) (hc : i ≠ c1) (hd : det i = some u) : CapJ det a1 c1 R0 C R1 (updI s i true) (updI vs i u) W := by
  have e1 : updI s i true c1 = s c1 := updI_ne s true (fun e => hc e.symm)
  have e0 : updI s i true a1 = s a1 := updI_ne s true (fun e => hi e.symm)
  have v1 : updI vs i u c1 = vs c1 := updI_ne vs u (fun e => hc e.symm)
  have v0 : updI vs i u a1 = vs a1 := updI_ne vs u (fun e => hi e.symm)
  refine ⟨fun j u' hj hdj => ?_, by rw [e0, e1]; exact h.w0, by rw [e0, e1, v0]; exact h.w1, by rw [e1, v1]; exact h.w2⟩
  by_cases hji : j = i
  · subst hji
    rw [updI_same]
    rw [hd] at hdj
    exact Option.some.inj hdj
  · rw [updI_ne s true hji] at hj
    rw [updI_ne vs u hji]
    exact h.dt j u' hj hdj
theorem CapJ.call (h : CapJ det a1 c1 R0 C R1 s vs W) (hs : s a1 = false) (hac : a1 ≠ c1) (hd : det a1 = none) {v : Value} (hC : C v W') : CapJ det a1 c1 R0 C R1 (updI s a1 true) (updI vs a1 v) W' := by
  obtain ⟨e, hc⟩ := h.w0 hs
  have e1 : updI s a1 true c1 = false := (updI_ne s true (fun e => hac e.symm)).trans hc
  refine ⟨fun j u' hj hdj => ?_, fun h1 => ?_, fun _ _ => by rw [updI_same]; exact hC, fun h1 => ?_⟩
  · by_cases hji : j = a1
    · subst hji; rw [hd] at hdj; cases hdj
    · rw [updI_ne s true hji] at hj
      rw [updI_ne vs v hji]
      exact h.dt j u' hj hdj
  · rw [updI_same] at h1; cases h1
  · rw [e1] at h1; cases h1
theorem CapJ.app (h : CapJ det a1 c1 R0 C R1 s vs W) (ha : s a1 = true) (hac : a1 ≠ c1) (hd : det c1 = none) {v : Value} (hR : R1 v W') : CapJ det a1 c1 R0 C R1 (updI s c1 true) (updI vs c1 v) W' := by
  have e0 : updI s c1 true a1 = true := (updI_ne s true hac).trans ha
  refine ⟨fun j u' hj hdj => ?_, fun h1 => ?_, fun _ h1 => ?_, fun _ => by rw [updI_same]; exact hR⟩
  · by_cases hji : j = c1
    · subst hji; rw [hd] at hdj; cases hdj
    · rw [updI_ne s true hji] at hj
      rw [updI_ne vs v hji]
      exact h.dt j u' hj hdj
  · rw [e0] at h1; cases h1
  · rw [updI_same] at h1; cases h1
end
end Go.Proofs.Ytpnefacignalpaa
