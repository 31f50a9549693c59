/- A tick of braking, plain. Conditions: those typed. -/
import Derived.Test.YtnnbnecpcppkdaaDoorBrkX
namespace Go.Proofs.YtnnbnecpcppkdaaDoor
set_option linter.unusedVariables false
theorem GenLk.speed_le {k : Lk} {l : List P2} (h : GenLk k l) : k.speed.q ≤ 1 := by
  obtain ⟨c, a, e, d, f, zs, _, _, _, hd, _, ⟨_, _, _, hs, _⟩, _⟩ := h
  rw [hs]
  have h8 : d = 0 ∨ d = 1 ∨ d = 2 ∨ d = 3 ∨ d = 4 ∨ d = 5 ∨ d = 6 ∨ d = 7 := by omega
  rcases h8 with rfl | rfl | rfl | rfl | rfl | rfl | rfl | rfl <;> decide +kernel
theorem ticks_end {b v : Rat} {n : Int} (h : TicksIs b v n 0) : ∃ m : Nat, n = m ∧ PathEnd b v m := by
  obtain ⟨hb, _, h0, h1, h2, h3⟩ := ticks_ok h
  obtain ⟨m, rfl⟩ : ∃ m : Nat, n = m := ⟨n.toNat, by omega⟩
  refine ⟨m, rfl, by omega, fun k hk hz => ?_, fun _ => (pathV_zero hb m).mpr h2⟩
  have h4 := (pathV_zero hb k).mp hz
  have h5 := mul_mono hb (show (k : Int) ≤ (m : Int) - 1 by omega)
  rw [Rat.intCast_sub] at h5
  have h6 : ((1 : Int) : Rat) = 1 := rfl
  rw [h6] at h5
  grind
theorem pathV_shift (b v : Rat) (k : Nat) : pathV b (pathV b v 1) k = pathV b v (k + 1) := by
  induction k with
  | zero => rfl
  | succ k ih => show stepV b (pathV b (pathV b v 1) k) = stepV b (pathV b v (k + 1)); rw [ih]
theorem pathQ_shift (b q v : Rat) (k : Nat) : pathQ b (pathQ b q v 1) (pathV b v 1) k = pathQ b q v (k + 1) := by
  induction k with
  | zero => rfl
  | succ k ih =>
    show pathQ b (pathQ b q v 1) (pathV b v 1) k + pathV b (pathV b v 1) (k + 1) = pathQ b q v (k + 1) + pathV b v (k + 2)
    rw [ih, pathV_shift]
theorem step_nonneg {b v : Rat} (hb : 0 < b) (h : 0 ≤ v) : 0 ≤ stepV b v := by unfold stepV; split <;> (try split) <;> grind
theorem step_nonpos {b v : Rat} (hb : 0 < b) (h : v ≤ 0) : stepV b v ≤ 0 := by unfold stepV; split <;> (try split) <;> grind
theorem pathV_nonneg {b v : Rat} (hb : 0 < b) (h : 0 ≤ v) : ∀ k, 0 ≤ pathV b v k
  | 0 => h
  | k + 1 => step_nonneg hb (pathV_nonneg hb h k)
theorem pathV_nonpos {b v : Rat} (hb : 0 < b) (h : v ≤ 0) : ∀ k, pathV b v k ≤ 0
  | 0 => h
  | k + 1 => step_nonpos hb (pathV_nonpos hb h k)
theorem pathQ_up {b q v : Rat} (hb : 0 < b) (h : 0 ≤ v) (j : Nat) : ∀ k, pathQ b q v j ≤ pathQ b q v (j + k)
  | 0 => Rat.le_refl
  | k + 1 => by
    have h1 := pathQ_up (q := q) hb h j k
    have h2 := pathV_nonneg hb h (j + k + 1)
    show _ ≤ pathQ b q v (j + k) + pathV b v (j + k + 1)
    grind
theorem pathQ_down {b q v : Rat} (hb : 0 < b) (h : v ≤ 0) (j : Nat) : ∀ k, pathQ b q v (j + k) ≤ pathQ b q v j
  | 0 => Rat.le_refl
  | k + 1 => by
    have h1 := pathQ_down (q := q) hb h j k
    have h2 := pathV_nonpos hb h (j + k + 1)
    show pathQ b q v (j + k) + pathV b v (j + k + 1) ≤ _
    grind
/-- after a tick of braking it ends at the same place, and is between -/
theorem brk_span {b q v : Rat} {n n' : Int} (h : TicksIs b v n 0) (h' : TicksIs b (slowQ b v) n' 0) :
    q + slowQ b v + wayQ b (slowQ b v) n' = q + wayQ b v n ∧ ((q ≤ q + slowQ b v ∧ q + slowQ b v ≤ q + wayQ b v n) ∨ (q + wayQ b v n ≤ q + slowQ b v ∧ q + slowQ b v ≤ q)) := by
  obtain ⟨hb, _⟩ := ticks_ok h
  obtain ⟨m, hm, hend⟩ := ticks_end h
  obtain ⟨m', hm', hend'⟩ := ticks_end h'
  rw [← wayQ_path h hm, ← wayQ_path h' hm', slow_path hb]
  rw [slow_path hb] at hend'
  have hq1 : q + pathV b v 1 = pathQ b q v 1 := rfl
  rw [hq1, pathQ_shift]
  rcases m with _ | m
  · have hz : pathV b v 0 = 0 := hend.2.2 (by omega)
    have hv : v = 0 := hz
    have hm0 : m' = 0 := by
      rcases m' with _ | m'
      · rfl
      · exfalso
        refine hend'.2.1 0 (by omega) ?_
        show pathV b v 1 = 0
        rw [hv]
        show stepV b 0 = 0
        unfold stepV
        rw [if_neg (by grind), if_neg (by grind)]
    subst hm0
    have h1 : pathQ b q v 1 = q := by
      show q + stepV b v = q
      rw [hv]
      unfold stepV
      rw [if_neg (by grind), if_neg (by grind)]
      grind
    rw [h1]
    exact ⟨rfl, .inl ⟨Rat.le_refl, Rat.le_refl⟩⟩
  · have hmm : m' = m := by
      rcases Nat.lt_trichotomy m' m with hlt | heq | hgt
      · exfalso
        have := hend'.2.2 (by have := hend.1; omega)
        rw [pathV_shift] at this
        exact hend.2.1 (m' + 1) (by omega) this
      · exact heq
      · exfalso
        refine hend'.2.1 m hgt ?_
        rw [pathV_shift]
        by_cases h2 : m + 1 < 2000
        · exact hend.2.2 h2
        · have := (path_ticks h hend).2
          exact this
    subst hmm
    refine ⟨rfl, ?_⟩
    rcases Rat.le_total (a := 0) (b := v) with hv | hv
    · left
      have h1 := pathQ_up (q := q) hb hv 0 1
      have h2 := pathQ_up (q := q) hb hv 1 m'
      rw [Nat.add_comm 1 m'] at h2
      exact ⟨h1, h2⟩
    · right
      have h1 := pathQ_down (q := q) hb hv 0 1
      have h2 := pathQ_down (q := q) hb hv 1 m'
      rw [Nat.add_comm 1 m'] at h2
      exact ⟨h2, h1⟩
theorem slow_abs {b v : Rat} (hb : 0 < b) : absQ (slowQ b v) ≤ absQ v := by
  unfold slowQ
  split
  · have := absQ_nonneg v
    rw [show absQ 0 = 0 by decide +kernel]
    exact this
  · unfold absQ at *
    split <;> split <;> grind
theorem minQ_le (a b : Rat) : minQ a b ≤ a ∧ minQ a b ≤ b := by unfold minQ; split <;> grind
theorem le_maxQ (a b : Rat) : a ≤ maxQ a b ∧ b ≤ maxQ a b := by unfold maxQ; split <;> grind
/-- the later span is in the earlier one -/
theorem span_less {N M M' : Nat} {k : Lk} {q v q' v' : Q3} {s s' : P2} (hB : BrkAt N k q v q' v') (h : SpanAt M k q v s) (h' : SpanAt M' k q' v' s') : (s.x.q ≤ s'.x.q ∧ s'.x.q ≤ s.y.q) ∧ (s.x.q ≤ s'.y.q ∧ s'.y.q ≤ s.y.q) := by
  obtain ⟨n, t1, a1, a2, _⟩ := h
  obtain ⟨n', t2, b1, b2, _⟩ := h'
  obtain ⟨hv, hq, _⟩ := hB
  rw [hv] at t2 b1 b2 hq
  obtain ⟨g1, g2⟩ := brk_span (q := q.q) t1 t2
  rw [hq, g1] at b1 b2
  rw [a1, a2, b1, b2]
  unfold minQ maxQ
  rcases g2 with ⟨g2, g3⟩ | ⟨g2, g3⟩
  · split <;> split <;> split <;> split <;> grind
  · split <;> split <;> split <;> split <;> grind
end Go.Proofs.YtnnbnecpcppkdaaDoor
