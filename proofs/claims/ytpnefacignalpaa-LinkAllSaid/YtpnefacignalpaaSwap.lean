/- A law for 'x[i], x[j] = x[j], x[i]': two stores at the end, whose places may be reckoned late. Conditions: those typed. -/
import Derived.Test.YtpnefacignalpaaInvA
namespace Go.Proofs.Ytpnefacignalpaa
open Go Go.RowKit
set_option linter.unusedVariables false
section
variable {P : Program}
/-- the first store waits for all operations but those of late; the second one waits for the first -/
def Region.swB (l : List Oper) (i1 i2 : Nat) (late : List Nat) : Bool :=
  decide (i1 < i2) && decide (i2 < l.length) &&
  (List.range l.length).all (fun j => late.contains j || j == i1 || j == i2 || ((l[i1]?).map (fun o => o.after.any (fun e => e.on == j && Region.binds .any e))).getD false) &&
  ((l[i2]?).map (fun o => o.after.any (fun e => e.on == i1 && Region.binds .any e))).getD false
theorem wp_region_sw {id : Nat} {Q : Exit → Act → World → Prop} {a : Act} {w w0 w1 w2 : World} {l : List Oper} (hw0 : w.drew = w0) (i1 i2 : Nat) (late : List Nat) (val : Nat → Value) (hm : P.follows .mixedOrders = true) (hB : Region.invAB .any l.toArray l.length = true) (hsw : Region.swB l i1 i2 late = true)
    (hstep : ∀ (i : Nat) (o : Oper), i < l.length → l[i]? = some o → i ≠ i1 → i ≠ i2 → ∀ (vs : Nat → Value), (∀ e ∈ o.after, Region.binds .any e = true → e.on ≠ i1 → e.on ≠ i2 → vs e.on = val e.on) → ∀ W, (late.contains i = false → W = w0) →
      Region.wanted o (yielded l.toArray (lexA l vs i a).tmps) = true ∧ (execOp (lexA l vs i a).eval o).run P W = .ok (.value (val i)) W)
    (h1 : ∀ (o : Oper), l[i1]? = some o → ∀ (vs : Nat → Value), (∀ e ∈ o.after, Region.binds .any e = true → e.on ≠ i1 → e.on ≠ i2 → vs e.on = val e.on) →
      Region.wanted o (yielded l.toArray (lexA l vs i1 a).tmps) = true ∧ (execOp (lexA l vs i1 a).eval o).run P w0 = .ok .skip w1)
    (h2 : ∀ (o : Oper), l[i2]? = some o → ∀ (vs : Nat → Value), (∀ e ∈ o.after, Region.binds .any e = true → e.on ≠ i1 → e.on ≠ i2 → vs e.on = val e.on) →
      Region.wanted o (yielded l.toArray (lexA l vs i2 a).tmps) = true ∧ (execOp (lexA l vs i2 a).eval o).run P w1 = .ok .skip w2)
    (hfin : ∀ vs : Nat → Value, (∀ j, j < l.length → j ≠ i1 → j ≠ i2 → vs j = val j) → wpList P l.toArray Q (l.drop l.length) (lexA l vs l.length a) w2) : (Code.region id l.toArray true).wp P Q a w := by
  subst hw0
  simp only [Region.swB, Bool.and_eq_true, decide_eq_true_eq, List.all_eq_true, List.mem_range, Bool.or_eq_true, beq_iff_eq] at hsw
  obtain ⟨⟨⟨h12, h2l⟩, hall⟩, hd2⟩ := hsw
  have hdp : Region.depB .any l.toArray = true := by
    have h := hB
    simp only [Region.invAB, Bool.and_eq_true] at h
    exact h.1.2
  obtain ⟨o1, ho1⟩ : ∃ o, l[i1]? = some o := ⟨_, List.getElem?_eq_getElem (by omega)⟩
  obtain ⟨o2, ho2⟩ : ∃ o, l[i2]? = some o := ⟨_, List.getElem?_eq_getElem h2l⟩
  rw [ho1] at hall
  rw [ho2] at hd2
  simp only [Option.map_some, Option.getD_some, Array.any_eq_true', Bool.and_eq_true, beq_iff_eq] at hall hd2
  refine wp_region_invA l.length (fun s vs W => (∀ j, j < l.length → j ≠ i1 → j ≠ i2 → s j = true → vs j = val j) ∧ W = (if s i2 = true then w2 else if s i1 = true then w1 else w.drew) ∧ (s i1 = true → ∀ j, j < l.length → late.contains j = false → j ≠ i1 → j ≠ i2 → s j = true) ∧ (s i2 = true → s i1 = true)) hm hB ?_ ?_ ?_
  · exact ⟨fun j _ _ _ h => (by cases h), by simp, fun h => (by cases h), fun h => (by cases h)⟩
  · intro i o hi ho s vs W hJ hsi hdep
    obtain ⟨j1, rfl, j3, j4⟩ := hJ
    by_cases e1 : i = i1
    · subst e1
      rw [ho1] at ho
      obtain rfl := Option.some.inj ho
      have hs2 : s i2 = false := by
        cases h : s i2 with
        | false => rfl
        | true => rw [j4 h] at hsi; cases hsi
      obtain ⟨g1, g2⟩ := h1 o1 ho1 vs (fun e he hb n1 n2 => j1 e.on (by have := Region.depB_spec hdp i o1 ho1 e he hb; omega) n1 n2 (hdep e he hb))
      rw [if_neg (by rw [hs2]; decide), if_neg (by rw [hsi]; decide)]
      refine StepJ.skip g1 g2 ⟨fun j hj n1 n2 hs => ?_, ?_, fun _ j hj hl n1 n2 => ?_, fun h => ?_⟩
      · rw [updI_ne s true n1] at hs
        rw [updI_ne vs undef n1]
        exact j1 j hj n1 n2 hs
      · rw [updI_ne s true (show i2 ≠ i by omega), updI_same, if_neg (by rw [hs2]; decide), if_pos rfl]
      · rw [updI_ne s true n1]
        rcases hall j hj with ((h | h) | h) | ⟨e, he, he1, he2⟩
        · rw [hl] at h; cases h
        · exact absurd h n1
        · exact absurd h n2
        · subst he1
          exact hdep e he he2
      · rw [updI_same]
    · by_cases e2 : i = i2
      · subst e2
        rw [ho2] at ho
        obtain rfl := Option.some.inj ho
        have hs1 : s i1 = true := by
          obtain ⟨e, he, he1, he2⟩ := hd2
          rw [← he1]
          exact hdep e he he2
        obtain ⟨g1, g2⟩ := h2 o2 ho2 vs (fun e he hb n1 n2 => j1 e.on (by have := Region.depB_spec hdp i o2 ho2 e he hb; omega) n1 n2 (hdep e he hb))
        rw [if_neg (by rw [hsi]; decide), if_pos hs1]
        refine StepJ.skip g1 g2 ⟨fun j hj n1 n2 hs => ?_, ?_, fun _ j hj hl n1 n2 => ?_, fun _ => ?_⟩
        · rw [updI_ne s true n2] at hs
          rw [updI_ne vs undef n2]
          exact j1 j hj n1 n2 hs
        · rw [updI_same, if_pos rfl]
        · rw [updI_ne s true n2]
          exact j3 hs1 j hj hl n1 n2
        · rw [updI_ne s true (show i1 ≠ i by omega)]
          exact hs1
      · obtain ⟨g1, g2⟩ := hstep i o hi ho e1 e2 vs (fun e he hb n1 n2 => j1 e.on (by have := Region.depB_spec hdp i o ho e he hb; omega) n1 n2 (hdep e he hb)) (if s i2 = true then w2 else if s i1 = true then w1 else w.drew) (fun hl => by
          have hs1 : s i1 = false := by
            cases h : s i1 with
            | false => rfl
            | true => rw [j3 h i hi hl e1 e2] at hsi; cases hsi
          have hs2 : s i2 = false := by
            cases h : s i2 with
            | false => rfl
            | true => rw [j4 h] at hs1; cases hs1
          rw [if_neg (by rw [hs2]; decide), if_neg (by rw [hs1]; decide)])
        refine StepJ.val g1 g2 ⟨fun j hj n1 n2 hs => ?_, ?_, fun h j hj hl n1 n2 => ?_, fun h => ?_⟩
        · by_cases hji : j = i
          · subst hji; rw [updI_same]
          · rw [updI_ne s true hji] at hs
            rw [updI_ne vs _ hji]
            exact j1 j hj n1 n2 hs
        · rw [updI_ne s true (fun h => e2 h.symm), updI_ne s true (fun h => e1 h.symm)]
        · rw [updI_ne s true (fun h => e1 h.symm)] at h
          by_cases hji : j = i
          · subst hji; rw [updI_same]
          · rw [updI_ne s true hji]
            exact j3 h j hj hl n1 n2
        · rw [updI_ne s true (fun h => e2 h.symm)] at h
          rw [updI_ne s true (fun h => e1 h.symm)]
          exact j4 h
  · intro s vs W hs hJ
    obtain ⟨j1, rfl, _, _⟩ := hJ
    rw [if_pos (hs i2 h2l)]
    exact hfin vs (fun j hj n1 n2 => j1 j hj n1 n2 (hs j hj))
end
end Go.Proofs.Ytpnefacignalpaa
