/- Drawn regions whose operations yield one of several results that last (LstJ), and such with one append behind them (LapJ). Conditions: those typed. -/
import Derived.Test.YtpnefacignalpaaInvJ
import Derived.Test.YtpnefacignalpaaSeq
namespace Go.Proofs.Ytpnefacignalpaa
open Go Go.RowKit
set_option linter.unusedVariables false
structure LstJ (det : Nat → Option Value) (R0 : World → Prop) (Sp : Nat → Value → World → Prop) (s : Nat → Bool) (vs : Nat → Value) (W : World) : Prop where
  dt : ∀ i u, s i = true → det i = some u → vs i = u
  r0 : R0 W
  sp : ∀ i, s i = true → det i = none → Sp i (vs i) W
section
variable {det : Nat → Option Value} {R0 : World → Prop} {Sp : Nat → Value → World → Prop} {s : Nat → Bool} {vs : Nat → Value} {W W' : World}
theorem LstJ.start (h : R0 W) : LstJ det R0 Sp (fun _ => false) (fun _ => undef) W := ⟨fun i u h => (by cases h), h, fun i h => (by cases h)⟩
theorem LstJ.same (h : LstJ det R0 Sp s vs W) {i : Nat} {u : Value} (hd : det i = some u) : LstJ det R0 Sp (updI s i true) (updI vs i u) W := by
  refine ⟨fun j u' hj hdj => ?_, h.r0, fun j hj hdj => ?_⟩
  · by_cases hji : j = i
    · subst hji
      rw [updI_same]
      rw [hd] at hdj
      exact Option.some.inj hdj
    · rw [updI_ne s true hji] at hj
      rw [updI_ne vs u hji]
      exact h.dt j u' hj hdj
  · by_cases hji : j = i
    · subst hji; rw [hd] at hdj; cases hdj
    · rw [updI_ne s true hji] at hj
      rw [updI_ne vs u hji]
      exact h.sp j hj hdj
theorem LstJ.some_ (h : LstJ det R0 Sp s vs W) (hl0 : Lasts R0) (hl : ∀ i v, Lasts (Sp i v)) {i : Nat} {v : Value} (hd : det i = none) (hb : Below W.heap.size W W') (hS : Sp i v W') : LstJ det R0 Sp (updI s i true) (updI vs i v) W' := by
  refine ⟨fun j u' hj hdj => ?_, hl0 _ _ h.r0 hb, fun j hj hdj => ?_⟩
  · by_cases hji : j = i
    · subst hji; rw [hd] at hdj; cases hdj
    · rw [updI_ne s true hji] at hj
      rw [updI_ne vs v hji]
      exact h.dt j u' hj hdj
  · by_cases hji : j = i
    · subst hji
      rw [updI_same]
      exact hS
    · rw [updI_ne s true hji] at hj
      rw [updI_ne vs v hji]
      exact hl _ _ _ _ (h.sp j hj hdj) hb
end
/-- L: pairs of operations of which the first comes ahead of the second -/
structure LapJ (det : Nat → Option Value) (L : List (Nat × Nat)) (c1 : Nat) (R0 : World → Prop) (Sp : Nat → Value → World → Prop) (R1 : Value → World → Prop) (s : Nat → Bool) (vs : Nat → Value) (W : World) : Prop where
  dt : ∀ i u, s i = true → det i = some u → vs i = u
  w0 : s c1 = false → R0 W ∧ ∀ i, s i = true → det i = none → Sp i (vs i) W
  w1 : s c1 = true → R1 (vs c1) W
  w2 : ∀ p ∈ L, s p.2 = true → s p.1 = true
section
variable {det : Nat → Option Value} {L : List (Nat × Nat)} {c1 : Nat} {R0 : World → Prop} {Sp : Nat → Value → World → Prop} {R1 : Value → World → Prop} {s : Nat → Bool} {vs : Nat → Value} {W W' : World}
theorem LapJ.start (h : R0 W) : LapJ det L c1 R0 Sp R1 (fun _ => false) (fun _ => undef) W := ⟨fun i u h => (by cases h), fun _ => ⟨h, fun i h => (by cases h)⟩, fun h => (by cases h), fun p _ h => (by cases h)⟩
theorem updI_pairs {L : List (Nat × Nat)} {s : Nat → Bool} (h : ∀ p ∈ L, s p.2 = true → s p.1 = true) {i : Nat} (hp : ∀ p ∈ L, p.2 = i → s p.1 = true) : ∀ p ∈ L, updI s i true p.2 = true → updI s i true p.1 = true := by
  intro p hL h2
  by_cases h1 : p.1 = i
  · rw [h1, updI_same]
  · rw [updI_ne s true h1]
    by_cases h3 : p.2 = i
    · exact hp p hL h3
    · rw [updI_ne s true h3] at h2
      exact h p hL h2
theorem LapJ.all (h : LapJ det L c1 R0 Sp R1 s vs W) {X : World → Prop} (h0 : ∀ W, R0 W → X W) (h1 : ∀ v W, R1 v W → X W) : X W := by
  cases e1 : s c1 with
  | true => exact h1 _ _ (h.w1 e1)
  | false => exact h0 _ (h.w0 e1).1
theorem LapJ.same (h : LapJ det L c1 R0 Sp R1 s vs W) {i : Nat} {u : Value} (hc : i ≠ c1) (hp : ∀ p ∈ L, p.2 = i → s p.1 = true) (hd : det i = some u) : LapJ det L c1 R0 Sp R1 (updI s i true) (updI vs i u) W := by
  have e1 : updI s i true c1 = s c1 := updI_ne s true (fun e => hc e.symm)
  have v1 : updI vs i u c1 = vs c1 := updI_ne vs u (fun e => hc e.symm)
  refine ⟨fun j u' hj hdj => ?_, fun h0 => ?_, by rw [e1, v1]; exact h.w1, updI_pairs h.w2 hp⟩
  · by_cases hji : j = i
    · subst hji
      rw [updI_same]
      rw [hd] at hdj
      exact Option.some.inj hdj
    · rw [updI_ne s true hji] at hj
      rw [updI_ne vs u hji]
      exact h.dt j u' hj hdj
  · rw [e1] at h0
    refine ⟨(h.w0 h0).1, fun j hj hdj => ?_⟩
    by_cases hji : j = i
    · subst hji; rw [hd] at hdj; cases hdj
    · rw [updI_ne s true hji] at hj
      rw [updI_ne vs u hji]
      exact (h.w0 h0).2 j hj hdj
/-- a call or a literal ahead of the append -/
theorem LapJ.some_ (h : LapJ det L c1 R0 Sp R1 s vs W) (hs : s c1 = false) (hl0 : Lasts R0) (hl : ∀ i v, Lasts (Sp i v)) {i : Nat} {v : Value} (hc : i ≠ c1) (hp : ∀ p ∈ L, p.2 = i → s p.1 = true) (hd : det i = none) (hb : Below W.heap.size W W') (hS : Sp i v W') : LapJ det L c1 R0 Sp R1 (updI s i true) (updI vs i v) W' := by
  have e1 : updI s i true c1 = s c1 := updI_ne s true (fun e => hc e.symm)
  refine ⟨fun j u' hj hdj => ?_, fun h0 => ⟨hl0 _ _ (h.w0 hs).1 hb, fun j hj hdj => ?_⟩, fun h1 => ?_, updI_pairs h.w2 hp⟩
  · by_cases hji : j = i
    · subst hji; rw [hd] at hdj; cases hdj
    · rw [updI_ne s true hji] at hj
      rw [updI_ne vs v hji]
      exact h.dt j u' hj hdj
  · by_cases hji : j = i
    · subst hji
      rw [updI_same]
      exact hS
    · rw [updI_ne s true hji] at hj
      rw [updI_ne vs v hji]
      exact hl _ _ _ _ ((h.w0 hs).2 j hj hdj) hb
  · rw [e1, hs] at h1; cases h1
theorem LapJ.app (h : LapJ det L c1 R0 Sp R1 s vs W) (hp : ∀ p ∈ L, p.2 = c1 → s p.1 = true) (hd : det c1 = none) {v : Value} (hR : R1 v W') : LapJ det L c1 R0 Sp R1 (updI s c1 true) (updI vs c1 v) W' := by
  refine ⟨fun j u' hj hdj => ?_, fun h0 => ?_, fun _ => by rw [updI_same]; exact hR, updI_pairs h.w2 hp⟩
  · by_cases hji : j = c1
    · subst hji; rw [hd] at hdj; cases hdj
    · rw [updI_ne s true hji] at hj
      rw [updI_ne vs v hji]
      exact h.dt j u' hj hdj
  · rw [updI_same] at h0; cases h0
end
end Go.Proofs.Ytpnefacignalpaa
