/- A region that draws its order and ends in 'x.f = append(x.f, y)': one literal, one append; all else is known. Conditions: those typed. -/
import Derived.Test.YtpnefacignalpaaInvJ
namespace Go.Proofs.Ytpnefacignalpaa
open Go Go.RowKit
set_option linter.unusedVariables false
structure AppJ (det : Nat → Option Value) (a1 c1 : Nat) (wq : World) (ob : Obj) (R1 : Value → World → Prop) (s : Nat → Bool) (vs : Nat → Value) (W : World) : Prop where
  dt : ∀ i u, s i = true → det i = some u → vs i = u
  w0 : s a1 = false → W = wq ∧ s c1 = false
  w1 : s a1 = true → s c1 = false → W = wq.alloc ob
  w2 : s c1 = true → R1 (vs c1) W
section
variable {det : Nat → Option Value} {a1 c1 : Nat} {wq : World} {ob : Obj} {R1 : Value → World → Prop} {s : Nat → Bool} {vs : Nat → Value} {W W' : World}
theorem AppJ.start : AppJ det a1 c1 wq ob R1 (fun _ => false) (fun _ => undef) wq := ⟨fun i u h => (by cases h), fun _ => ⟨rfl, rfl⟩, fun h => (by cases h), fun h => (by cases h)⟩
/-- in whatever world: what holds of all three -/
theorem AppJ.all (h : AppJ det a1 c1 wq ob R1 s vs W) {X : World → Prop} (h0 : X wq) (h1 : X (wq.alloc ob)) (h2 : ∀ v W, R1 v W → X W) : X W := by
  cases e1 : s c1 with
  | true => exact h2 _ _ (h.w2 e1)
  | false =>
    cases e0 : s a1 with
    | false => rw [(h.w0 e0).1]; exact h0
    | true => rw [h.w1 e0 e1]; exact h1
theorem AppJ.same (h : AppJ det a1 c1 wq ob R1 s vs W) {i : Nat} {u : Value} (hi : i ≠ a1) (hc : i ≠ c1) (hd : det i = some u) : AppJ det a1 c1 wq ob R1 (updI s i true) (updI vs i u) W := by
  have e1 : updI s i true c1 = s c1 := updI_ne s true (fun e => hc e.symm)
  have e0 : updI s i true a1 = s a1 := updI_ne s true (fun e => hi e.symm)
  have v1 : updI vs i u c1 = vs c1 := updI_ne vs u (fun e => hc e.symm)
  refine ⟨fun j u' hj hdj => ?_, by rw [e0, e1]; exact h.w0, by rw [e0, e1]; exact h.w1, by rw [e1, v1]; exact h.w2⟩
  by_cases hji : j = i
  · subst hji
    rw [updI_same]
    rw [hd] at hdj
    exact Option.some.inj hdj
  · rw [updI_ne s true hji] at hj
    rw [updI_ne vs u hji]
    exact h.dt j u' hj hdj
theorem AppJ.lit (h : AppJ det a1 c1 wq ob R1 s vs W) (hs : s a1 = false) (hac : a1 ≠ c1) {u : Value} (hd : det a1 = some u) (hW : W' = W.alloc ob) : AppJ det a1 c1 wq ob R1 (updI s a1 true) (updI vs a1 u) W' := by
  obtain ⟨e, hc⟩ := h.w0 hs
  have e1 : updI s a1 true c1 = false := (updI_ne s true (fun e => hac e.symm)).trans hc
  refine ⟨fun j u' hj hdj => ?_, fun h1 => ?_, fun _ _ => by rw [hW, e], fun h1 => ?_⟩
  · by_cases hji : j = a1
    · subst hji
      rw [updI_same]
      rw [hd] at hdj
      exact Option.some.inj hdj
    · rw [updI_ne s true hji] at hj
      rw [updI_ne vs u hji]
      exact h.dt j u' hj hdj
  · rw [updI_same] at h1; cases h1
  · rw [e1] at h1; cases h1
theorem AppJ.app (h : AppJ det a1 c1 wq ob R1 s vs W) (ha : s a1 = true) (hac : a1 ≠ c1) (hd : det c1 = none) {v : Value} (hR : R1 v W') : AppJ det a1 c1 wq ob R1 (updI s c1 true) (updI vs c1 v) W' := by
  have e0 : updI s c1 true a1 = true := (updI_ne s true hac).trans ha
  refine ⟨fun j u' hj hdj => ?_, fun h1 => ?_, fun _ h1 => ?_, fun _ => by rw [updI_same]; exact hR⟩
  · by_cases hji : j = c1
    · subst hji; rw [hd] at hdj; cases hdj
    · rw [updI_ne s true hji] at hj
      rw [updI_ne vs v hji]
      exact h.dt j u' hj hdj
  · rw [e0] at h1; cases h1
  · rw [updI_same] at h1; cases h1
end
end Go.Proofs.Ytpnefacignalpaa
