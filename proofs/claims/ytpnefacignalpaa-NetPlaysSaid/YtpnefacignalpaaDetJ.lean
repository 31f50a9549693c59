/- A region that draws its order, with one call of one of several results; all else is known. Conditions: those typed. -/
import Derived.Test.YtpnefacignalpaaInvJ
import Derived.Test.YtpnefacignalpaaSeq
namespace Go.Proofs.Ytpnefacignalpaa
open Go Go.RowKit
set_option linter.unusedVariables false
structure DetJ (det : Nat → Option Value) (c1 : Nat) (R0 : World → Prop) (R1 : Value → World → Prop) (s : Nat → Bool) (vs : Nat → Value) (W : World) : Prop where
  dt : ∀ i u, s i = true → det i = some u → vs i = u
  w0 : s c1 = false → R0 W
  w1 : s c1 = true → R1 (vs c1) W
section
variable {det : Nat → Option Value} {c1 : Nat} {R0 : World → Prop} {R1 : Value → World → Prop} {s : Nat → Bool} {vs : Nat → Value} {W W' : World}
theorem DetJ.start (h : R0 W) : DetJ det c1 R0 R1 (fun _ => false) (fun _ => undef) W := ⟨fun i u h => (by cases h), fun _ => h, fun h => (by cases h)⟩
theorem DetJ.step (h : DetJ det c1 R0 R1 s vs W) (hl0 : Lasts R0) (hl1 : ∀ v, Lasts (R1 v)) {i : Nat} {u : Value} (hi : i ≠ c1) (hd : det i = some u) (hb : Below W.heap.size W W') : DetJ det c1 R0 R1 (updI s i true) (updI vs i u) W' := by
  have e1 : updI s i true c1 = s c1 := updI_ne s true (fun e => hi e.symm)
  have v1 : updI vs i u c1 = vs c1 := updI_ne vs u (fun e => hi e.symm)
  refine ⟨fun j u' hj hdj => ?_, fun h1 => hl0 _ _ (h.w0 (by rw [← e1]; exact h1)) hb, fun h1 => by rw [v1]; exact hl1 _ _ _ (h.w1 (by rw [← e1]; exact h1)) hb⟩
  by_cases hji : j = i
  · subst hji
    rw [updI_same]
    rw [hd] at hdj
    exact Option.some.inj hdj
  · rw [updI_ne s true hji] at hj
    rw [updI_ne vs u hji]
    exact h.dt j u' hj hdj
theorem DetJ.same (h : DetJ det c1 R0 R1 s vs W) {i : Nat} {u : Value} (hi : i ≠ c1) (hd : det i = some u) : DetJ det c1 R0 R1 (updI s i true) (updI vs i u) W := by
  have e1 : updI s i true c1 = s c1 := updI_ne s true (fun e => hi e.symm)
  have v1 : updI vs i u c1 = vs c1 := updI_ne vs u (fun e => hi e.symm)
  refine ⟨fun j u' hj hdj => ?_, fun h1 => h.w0 (by rw [← e1]; exact h1), fun h1 => by rw [v1]; exact h.w1 (by rw [← e1]; exact h1)⟩
  by_cases hji : j = i
  · subst hji
    rw [updI_same]
    rw [hd] at hdj
    exact Option.some.inj hdj
  · rw [updI_ne s true hji] at hj
    rw [updI_ne vs u hji]
    exact h.dt j u' hj hdj
theorem DetJ.mid (h : DetJ det c1 R0 R1 s vs W) (hd : det c1 = none) {v : Value} (hR : R1 v W') : DetJ det c1 R0 R1 (updI s c1 true) (updI vs c1 v) W' := by
  refine ⟨fun j u' hj hdj => ?_, fun h1 => ?_, fun _ => by rw [updI_same]; exact hR⟩
  · by_cases hji : j = c1
    · subst hji; rw [hd] at hdj; cases hdj
    · rw [updI_ne s true hji] at hj
      rw [updI_ne vs v hji]
      exact h.dt j u' hj hdj
  · rw [updI_same] at h1; cases h1
end
end Go.Proofs.Ytpnefacignalpaa
