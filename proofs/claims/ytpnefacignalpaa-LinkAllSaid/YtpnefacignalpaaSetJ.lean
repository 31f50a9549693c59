/- Drawn regions with stores in their head: what holds of the world follows from which of two stores have been done. Conditions: those typed. -/
import Derived.Test.YtpnefacignalpaaLapJ
namespace Go.Proofs.Ytpnefacignalpaa
open Go Go.RowKit
set_option linter.unusedVariables false
structure SetJ (det : Nat → Option Value) (L : List (Nat × Nat)) (k1 k2 : Nat) (Q : Bool → Bool → World → Prop) (s : Nat → Bool) (vs : Nat → Value) (W : World) : Prop where
  dt : ∀ i u, s i = true → det i = some u → vs i = u
  q : Q (s k1) (s k2) W
  w2 : ∀ p ∈ L, s p.2 = true → s p.1 = true
section
variable {det : Nat → Option Value} {L : List (Nat × Nat)} {k1 k2 : Nat} {Q : Bool → Bool → World → Prop} {s : Nat → Bool} {vs : Nat → Value} {W W' : World}
theorem SetJ.start (h : Q false false W) : SetJ det L k1 k2 Q (fun _ => false) (fun _ => undef) W := ⟨fun i u h => (by cases h), h, fun p _ h => (by cases h)⟩
theorem SetJ.same (h : SetJ det L k1 k2 Q s vs W) {i : Nat} {u : Value} (h1 : i ≠ k1) (h2 : i ≠ k2) (hp : ∀ p ∈ L, p.2 = i → s p.1 = true) (hd : det i = some u) : SetJ det L k1 k2 Q (updI s i true) (updI vs i u) W := by
  have e1 : updI s i true k1 = s k1 := updI_ne s true (fun e => h1 e.symm)
  have e2 : updI s i true k2 = s k2 := updI_ne s true (fun e => h2 e.symm)
  refine ⟨fun j u' hj hdj => ?_, by rw [e1, e2]; exact h.q, updI_pairs h.w2 hp⟩
  by_cases hji : j = i
  · subst hji
    rw [updI_same]
    rw [hd] at hdj
    exact Option.some.inj hdj
  · rw [updI_ne s true hji] at hj
    rw [updI_ne vs u hji]
    exact h.dt j u' hj hdj
theorem SetJ.set1 (h : SetJ det L k1 k2 Q s vs W) {u : Value} (h12 : k1 ≠ k2) (hp : ∀ p ∈ L, p.2 = k1 → s p.1 = true) (hd : det k1 = none) (hQ : Q true (s k2) W') : SetJ det L k1 k2 Q (updI s k1 true) (updI vs k1 u) W' := by
  have e2 : updI s k1 true k2 = s k2 := updI_ne s true (fun e => h12 e.symm)
  refine ⟨fun j u' hj hdj => ?_, by rw [updI_same, e2]; exact hQ, updI_pairs h.w2 hp⟩
  by_cases hji : j = k1
  · subst hji; rw [hd] at hdj; cases hdj
  · rw [updI_ne s true hji] at hj
    rw [updI_ne vs u hji]
    exact h.dt j u' hj hdj
theorem SetJ.set2 (h : SetJ det L k1 k2 Q s vs W) {u : Value} (h12 : k1 ≠ k2) (hp : ∀ p ∈ L, p.2 = k2 → s p.1 = true) (hd : det k2 = none) (hQ : Q (s k1) true W') : SetJ det L k1 k2 Q (updI s k2 true) (updI vs k2 u) W' := by
  have e1 : updI s k2 true k1 = s k1 := updI_ne s true h12
  refine ⟨fun j u' hj hdj => ?_, by rw [updI_same, e1]; exact hQ, updI_pairs h.w2 hp⟩
  by_cases hji : j = k2
  · subst hji; rw [hd] at hdj; cases hdj
  · rw [updI_ne s true hji] at hj
    rw [updI_ne vs u hji]
    exact h.dt j u' hj hdj
end
end Go.Proofs.Ytpnefacignalpaa
