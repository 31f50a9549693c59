/- poly.check, poly.Check. Conditions: those typed. -/
import Derived.Test.YtnnbnecpcppkdaaDoorPoly
namespace Go.Proofs.YtnnbnecpcppkdaaDoor
open Go.RowKit Go.Gy
set_option linter.unusedVariables false
def LeftOK (l : List P2) (i k : Nat) : Prop := ∀ a b c, l[i]? = some a → l[(i + 1) % l.length]? = some b → l[(i + k) % l.length]? = some c → 0 < areaQ a b c
/-- convex, counter-clockwise -/
def Conv (l : List P2) : Prop := ∀ i k, i < l.length → 2 ≤ k → k < l.length → LeftOK l i k
def CheckIs (l : List P2) (most e : Int) : Prop :=
  ((l.length : Int) > most ∧ e = 2) ∨ (¬ (l.length : Int) > most ∧ l.length < 3 ∧ e = 3) ∨ (¬ (l.length : Int) > most ∧ 3 ≤ l.length ∧ ¬ Conv l ∧ e = 3) ∨ (¬ (l.length : Int) > most ∧ 3 ≤ l.length ∧ Conv l ∧ e = 0)
theorem CheckIs.uniq {l : List P2} {most e e' : Int} (h : CheckIs l most e) (h' : CheckIs l most e') : e = e' := by
  rcases h with ⟨h1, h2⟩ | ⟨h1, h2, h3⟩ | ⟨h1, h2, h3, h4⟩ | ⟨h1, h2, h3, h4⟩
  all_goals
    rcases h' with ⟨g1, g2⟩ | ⟨g1, g2, g3⟩ | ⟨g1, g2, g3, g4⟩ | ⟨g1, g2, g3, g4⟩
    all_goals first | omega | (exact absurd ‹Conv l› ‹¬ Conv l›)
def PcO (w : World) (l : List P2) (v : Value) (wr : World) : Prop := ∃ i : Nat, i ≤ l.length ∧ v = .int .i64 i ∧ (∀ j k, j < i → 2 ≤ k → k < l.length → LeftOK l j k) ∧ In w [] wr
def PcI (w : World) (l : List P2) (g : Nat) (a : P2) (i : Nat) (v : Value) (wr : World) : Prop := ∃ k : Nat, 2 ≤ k ∧ k ≤ l.length ∧ v = .int .i64 k ∧ (∀ k', 2 ≤ k' → k' < k → LeftOK l i k') ∧ In w [(g, 30, #[.bool a.x.neg, .string a.x.num, .string a.x.den, .bool a.y.neg, .string a.y.num, .string a.y.den])] wr
set_option maxRecDepth 100000 in
set_option maxHeartbeats 8000000 in
theorem check_at (w : World) (hT : TabW w) (v : Value) (l : List P2) {N : Nat} (hv : SlP w w.heap.size v l) (hl : ∀ x ∈ l, x.le N) (hN : 1 ≤ N ∧ N ≤ 68719476736) (most : Int) (hm : 0 ≤ most ∧ most ≤ 1000) :
    Calls Tryd.prog 127 #[v, .int .i64 most] w fun r w' => ∃ e, r = .returned (.int .i64 e) ∧ CheckIs l most e ∧ Below w.heap.size w w' := by
  have HT := Lib.hid hT
  obtain ⟨A, n, c, rfl, hln, hnc, hA, hrd⟩ := hv
  subst hln
  have hI := In.start w
  have HRD := Lib.hid hrd
  clear hrd hT
  by_cases h1 : (l.length : Int) > most
  · have HC := Lib.hid (show CheckIs l most 2 from .inl ⟨h1, rfl⟩)
    go_enter Tryd.func127, Tryd.ntmps127
    go_wp2
    go_ret
    exact ⟨2, rfl, HC.out, hI.bel⟩
  · by_cases h2 : l.length < 3
    · have HC := Lib.hid (show CheckIs l most 3 from .inr (.inl ⟨h1, h2, rfl⟩))
      have h3 : (l.length : Int) < 3 := by omega
      go_enter Tryd.func127, Tryd.ntmps127
      go_wp2
      go_ret
      exact ⟨3, rfl, HC.out, hI.bel⟩
    · have h3 : ¬ (l.length : Int) < 3 := by omega
      have HC3 := Lib.hid (show ¬ Conv l → CheckIs l most 3 from fun h => .inr (.inr (.inl ⟨h1, by omega, h, rfl⟩)))
      have HC0 := Lib.hid (show Conv l → CheckIs l most 0 from fun h => .inr (.inr (.inr ⟨h1, by omega, h, rfl⟩)))
      have hst := Lib.hid (show PcO w l (.int .i64 0) w from ⟨0, Nat.zero_le _, rfl, fun j k hj => absurd hj (Nat.not_lt_zero j), hI⟩)
      have hn3 : 3 ≤ l.length := by omega
      clear hI
      go_enter Tryd.func127, Tryd.ntmps127
      go_wp2_with fail
      go_loopw [20] (fun i wr => PcO w l i wr) (fun i _ => l.length - (intOf i).toNat)
      case atStart => exact hst.out
      case round =>
        clear hst
        obtain ⟨i, hi, rfl, hok, hI⟩ := hrel
        by_cases hin : i < l.length
        · have hi1 : (i : Int) < (l.length : Int) := by omega
          have hi2 : 0 ≤ (i : Int) ∧ (i : Int) < (l.length : Int) := by omega
          obtain ⟨a, ha⟩ : ∃ a, l[i]? = some a := ⟨_, List.getElem?_eq_getElem hin⟩
          obtain ⟨b, o, rfl, hbB, e0, e1, e2, e3, e4, e5⟩ := Rd.pt HRD.out ha
          have d0 := (hI.bel.cell (p := ⟨b, o + i * 6, none⟩) hbB).trans e0
          have d1 := (hI.bel.cell (p := ⟨b, o + i * 6 + 1, none⟩) hbB).trans e1
          have d2 := (hI.bel.cell (p := ⟨b, o + i * 6 + 2, none⟩) hbB).trans e2
          have d3 := (hI.bel.cell (p := ⟨b, o + i * 6 + 3, none⟩) hbB).trans e3
          have d4 := (hI.bel.cell (p := ⟨b, o + i * 6 + 4, none⟩) hbB).trans e4
          have d5 := (hI.bel.cell (p := ⟨b, o + i * 6 + 5, none⟩) hbB).trans e5
          have hbn : b < wr.heap.size := Nat.lt_of_lt_of_le hbB hI.bel.size
          have HOK := Lib.hid hok
          have HAI := Lib.hid ha
          have HAL := Lib.hid (hl a (List.mem_of_getElem? ha))
          have hwi : IntKind.i64.wrap ((i : Int) + 1) = (i : Int) + 1 := by rw [IntKind.wrap_i64]; omega
          replace hI := hI.alloc 30 #[.bool a.x.neg, .string a.x.num, .string a.x.den, .bool a.y.neg, .string a.y.num, .string a.y.den]
          obtain ⟨g, hg⟩ : ∃ g, g = wr.heap.size := ⟨_, rfl⟩
          rw [← hg] at hI
          have hst2 := Lib.hid (show PcI w l g a i (.int .i64 2) _ from ⟨2, Nat.le_refl _, by omega, rfl, fun k h1 h2 => by omega, hI⟩)
          clear e0 e1 e2 e3 e4 e5 ha hok
          go_wp2_with fail
          rw [← hg]
          generalize World.alloc _ _ = W1 at hI hst2 ⊢
          clear hg hI d0 d1 d2 d3 d4 d5 hbn
          go_loopw [8] (fun k wx => PcI w l g a i k wx) (fun k _ => l.length - (intOf k).toNat)
          case atStart => exact hst2.out
          case round =>
            clear hst2
            obtain ⟨k, hk2, hkn, rfl, hko, hJ⟩ := hrel
            by_cases hkl : k < l.length
            · have hk1 : (k : Int) < (l.length : Int) := by omega
              obtain ⟨j1, hj1⟩ : ∃ j, j = (i + 1) % l.length := ⟨_, rfl⟩
              obtain ⟨j2, hj2⟩ : ∃ j, j = (i + k) % l.length := ⟨_, rfl⟩
              have hj1n : j1 < l.length := by rw [hj1]; exact Nat.mod_lt _ (by omega)
              have hj2n : j2 < l.length := by rw [hj2]; exact Nat.mod_lt _ (by omega)
              have hr1 : ((i : Int) + 1).tmod (l.length : Int) = (j1 : Int) := by rw [hj1, Int.tmod_eq_emod_of_nonneg (by omega), show (i : Int) + 1 = ((i + 1 : Nat) : Int) by omega, Int.natCast_emod]
              have hr2 : ((i : Int) + (k : Int)).tmod (l.length : Int) = (j2 : Int) := by rw [hj2, Int.tmod_eq_emod_of_nonneg (by omega), show (i : Int) + (k : Int) = ((i + k : Nat) : Int) by omega, Int.natCast_emod]
              have hw2 : IntKind.i64.wrap ((i : Int) + (k : Int)) = (i : Int) + (k : Int) := by rw [IntKind.wrap_i64]; omega
              have hw3 : IntKind.i64.wrap (j1 : Int) = (j1 : Int) := by rw [IntKind.wrap_i64]; omega
              have hw4 : IntKind.i64.wrap (j2 : Int) = (j2 : Int) := by rw [IntKind.wrap_i64]; omega
              have hwk : IntKind.i64.wrap ((k : Int) + 1) = (k : Int) + 1 := by rw [IntKind.wrap_i64]; omega
              have hn0 : ¬ (l.length : Int) = 0 := by omega
              have hne : ¬ l = [] := by rintro rfl; exact absurd hn3 (by decide)
              have hn1 : ((l.length : Int) == 0) = false := by simpa using hn0
              have hb1 : 0 ≤ (j1 : Int) ∧ (j1 : Int) < (l.length : Int) := by omega
              have hb2 : 0 ≤ (j2 : Int) ∧ (j2 : Int) < (l.length : Int) := by omega
              obtain ⟨p, hp⟩ : ∃ a, l[j1]? = some a := ⟨_, List.getElem?_eq_getElem hj1n⟩
              obtain ⟨q, hq⟩ : ∃ a, l[j2]? = some a := ⟨_, List.getElem?_eq_getElem hj2n⟩
              obtain ⟨b', o', he, _, e0, e1, e2, e3, e4, e5⟩ := Rd.pt HRD.out hp
              cases he
              obtain ⟨b', o', he, _, f0, f1, f2, f3, f4, f5⟩ := Rd.pt HRD.out hq
              cases he
              obtain ⟨s, hs, LF⟩ := leftR w HT.out a p q HAL.out (hl p (List.mem_of_getElem? hp)) (hl q (List.mem_of_getElem? hq)) hN
              have hLO : LeftOK l i k ↔ ¬ s ≤ 0 := by
                unfold LeftOK
                rw [hs, ← hj1, ← hj2]
                constructor
                · intro h; exact Rat.not_le.mpr (h a p q HAI.out hp hq)
                · intro h a' p' q' h1 h2 h3
                  rw [HAI.out] at h1; rw [hp] at h2; rw [hq] at h3
                  cases h1; cases h2; cases h3
                  exact Rat.not_le.mp h
              have HLO := Lib.hid hLO
              have HKO := Lib.hid hko
              have E := Lib.hid (fun W (hW : Below w.heap.size w W) => (⟨Nat.lt_of_lt_of_le hbB hW.size, ⟨(hW.cell (p := ⟨b, o + j1 * 6, none⟩) hbB).trans e0, (hW.cell (p := ⟨b, o + j1 * 6 + 1, none⟩) hbB).trans e1, (hW.cell (p := ⟨b, o + j1 * 6 + 2, none⟩) hbB).trans e2, (hW.cell (p := ⟨b, o + j1 * 6 + 3, none⟩) hbB).trans e3, (hW.cell (p := ⟨b, o + j1 * 6 + 4, none⟩) hbB).trans e4, (hW.cell (p := ⟨b, o + j1 * 6 + 5, none⟩) hbB).trans e5⟩,
                ⟨(hW.cell (p := ⟨b, o + j2 * 6, none⟩) hbB).trans f0, (hW.cell (p := ⟨b, o + j2 * 6 + 1, none⟩) hbB).trans f1, (hW.cell (p := ⟨b, o + j2 * 6 + 2, none⟩) hbB).trans f2, (hW.cell (p := ⟨b, o + j2 * 6 + 3, none⟩) hbB).trans f3, (hW.cell (p := ⟨b, o + j2 * 6 + 4, none⟩) hbB).trans f4, (hW.cell (p := ⟨b, o + j2 * 6 + 5, none⟩) hbB).trans f5⟩⟩ : And _ (And (And _ (And _ (And _ (And _ (And _ _))))) (And _ (And _ (And _ (And _ (And _ _))))))))
              clear e0 e1 e2 e3 e4 e5 f0 f1 f2 f3 f4 f5 hp hq hs hLO hko hj1 hj2
              go_upto_region 12 with (fail)
              by_cases hs0 : s ≤ 0
              · have HX := Lib.hid (HC3.out fun hcv => absurd hs0 (HLO.out.mp (hcv i k hin hk2 hkl)))
                refine wp_region_in hJ (by kernel_rfl) (by kernel_rfl) ?_
                repeat (first
                  | (refine wpSeq_off (by rfl) ?_; try simp only [Act.put, List.setIfInBounds_toArray, List.set_cons_zero, List.set_cons_succ])
                  | (refine wpSeq_val (v := ?_) (by rfl) (fun W hS => ?_) ?_
                     rotate_left
                     · (have fx := hS.facts; simp only [factsOf, cellsOf, Nat.zero_add, Nat.reduceAdd] at fx; have fy0 := E.out W hS.bel; clear hS; go_simp; first | done | with_reducible rfl)
                     try simp only [Act.put, List.setIfInBounds_toArray, List.set_cons_zero, List.set_cons_succ]))
                refine wpSeq_call (v := .int .i64 s) (by rfl) (fun W hS => ?_) (fun W hS => (LF.out W hS.bel)) ?_
                · (clear hS; go_simp; done)
                try simp only [Act.put, List.setIfInBounds_toArray, List.set_cons_zero, List.set_cons_succ]
                repeat (first
                  | (refine wpSeq_off (by rfl) ?_; try simp only [Act.put, List.setIfInBounds_toArray, List.set_cons_zero, List.set_cons_succ])
                  | (refine wpSeq_val (v := ?_) (by rfl) (fun W hS => ?_) ?_
                     rotate_left
                     · (have fx := hS.facts; simp only [factsOf, cellsOf, Nat.zero_add, Nat.reduceAdd] at fx; clear hS; go_simp; first | done | with_reducible rfl)
                     try simp only [Act.put, List.setIfInBounds_toArray, List.set_cons_zero, List.set_cons_succ]))
                refine wpSeq_nil (fun W hS => ?_)
                clear hJ
                go_wp2
                go_ret
                exact ⟨3, rfl, HX.out, hS.bel⟩
              · have HN := Lib.hid (show ∀ W, In w [(g, 30, #[.bool a.x.neg, .string a.x.num, .string a.x.den, .bool a.y.neg, .string a.y.num, .string a.y.den])] W → PcI w l g a i (.int .i64 ((k : Int) + 1)) W from fun W hW => ⟨k + 1, by omega, hkl, by simp, fun k' h1 h2 => by
                  rcases Nat.lt_succ_iff_lt_or_eq.mp h2 with h | rfl
                  · exact HKO.out k' h1 h
                  · exact HLO.out.mpr hs0, hW⟩)
                refine wp_region_in hJ (by kernel_rfl) (by kernel_rfl) ?_
                repeat (first
                  | (refine wpSeq_off (by rfl) ?_; try simp only [Act.put, List.setIfInBounds_toArray, List.set_cons_zero, List.set_cons_succ])
                  | (refine wpSeq_val (v := ?_) (by rfl) (fun W hS => ?_) ?_
                     rotate_left
                     · (have fx := hS.facts; simp only [factsOf, cellsOf, Nat.zero_add, Nat.reduceAdd] at fx; have fy0 := E.out W hS.bel; clear hS; go_simp; first | done | with_reducible rfl)
                     try simp only [Act.put, List.setIfInBounds_toArray, List.set_cons_zero, List.set_cons_succ]))
                refine wpSeq_call (v := .int .i64 s) (by rfl) (fun W hS => ?_) (fun W hS => (LF.out W hS.bel)) ?_
                · (clear hS; go_simp; done)
                try simp only [Act.put, List.setIfInBounds_toArray, List.set_cons_zero, List.set_cons_succ]
                repeat (first
                  | (refine wpSeq_off (by rfl) ?_; try simp only [Act.put, List.setIfInBounds_toArray, List.set_cons_zero, List.set_cons_succ])
                  | (refine wpSeq_val (v := ?_) (by rfl) (fun W hS => ?_) ?_
                     rotate_left
                     · (have fx := hS.facts; simp only [factsOf, cellsOf, Nat.zero_add, Nat.reduceAdd] at fx; clear hS; go_simp; first | done | with_reducible rfl)
                     try simp only [Act.put, List.setIfInBounds_toArray, List.set_cons_zero, List.set_cons_succ]))
                refine wpSeq_nil (fun W hS => ?_)
                have hrel := HN.out _ hS
                clear hJ hS
                go_wp2_with fail
                go_roundw
                case rel => exact hrel
                case measure => simp [intOf]; omega
            · have hk1 : ¬ (k : Int) < (l.length : Int) := by omega
              have hrel : PcO w l (.int .i64 ((i : Int) + 1)) wr := ⟨i + 1, hin, by simp, fun j k' hj h1 h2 => by
                rcases Nat.lt_succ_iff_lt_or_eq.mp hj with h | rfl
                · exact HOK.out j k' h h1 h2
                · exact hko k' h1 (by omega), hJ.tail⟩
              have Hrel := Lib.hid hrel
              clear hrel hko hJ
              go_wp2_with fail
              go_roundw
              case rel => exact Hrel.out
              case measure => simp [intOf]; omega
        · have hi1 : ¬ (i : Int) < (l.length : Int) := by omega
          have HX := Lib.hid (HC0.out fun j k hj h1 h2 => hok j k (by omega) h1 h2)
          clear hok
          go_wp2
          go_ret
          exact ⟨0, rfl, HX.out, hI.bel⟩
end Go.Proofs.YtnnbnecpcppkdaaDoor
