/- What feel.Stop reckons, plain. feel.Stop. gantkeep5.feels. Conditions: those typed. -/
import Derived.Test.YtnnbnecpcppkdaaDoorMakeQ
import Derived.Deep.RegionHeld3
import Derived.Test.YtnnbnecpcppkdaaDoorSeqIn
namespace Go.Proofs.YtnnbnecpcppkdaaDoor
/-- reading k must stop the arm -/
def stopAt (lim jump : Rat) (l : List Rat) (k : Nat) : Prop := ∃ x, l[k]? = some x ∧ (lim < absQ x ∨ ∃ y, 0 < k ∧ l[k - 1]? = some y ∧ jump < absQ (x - y))
/-- the first reading that stops it: what feel.Stop returns -/
def StopIs (lim jump : Rat) (l : List Rat) (i : Int) : Prop := (∃ k : Nat, i = k ∧ stopAt lim jump l k ∧ ∀ j, j < k → ¬ stopAt lim jump l j) ∨ (i = -1 ∧ ∀ j, ¬ stopAt lim jump l j)
theorem stopAt_lt {lim jump : Rat} {l : List Rat} {k : Nat} (h : stopAt lim jump l k) : k < l.length := by
  obtain ⟨x, hx, _⟩ := h
  exact (List.getElem?_eq_some_iff.1 hx).1
theorem StopIs.unique {lim jump : Rat} {l : List Rat} {i j : Int} (h : StopIs lim jump l i) (h' : StopIs lim jump l j) : i = j := by
  rcases h with ⟨k, rfl, h1, h2⟩ | ⟨rfl, h1⟩
  · rcases h' with ⟨k', rfl, h3, h4⟩ | ⟨rfl, h3⟩
    · rcases Nat.lt_trichotomy k k' with h | h | h
      · exact absurd h1 (h4 k h)
      · rw [h]
      · exact absurd h3 (h2 k' h)
    · exact absurd h1 (h3 k)
  · rcases h' with ⟨k', rfl, h3, h4⟩ | ⟨rfl, h3⟩
    · exact absurd h3 (h1 k')
    · rfl
/-- what is allowed less stops no later -/
theorem stopAt_less {lim jump lim' jump' : Rat} {l : List Rat} {k : Nat} (h1 : lim' ≤ lim) (h2 : jump' ≤ jump) (h : stopAt lim jump l k) : stopAt lim' jump' l k := by
  obtain ⟨x, hx, h | ⟨y, hk, hy, h⟩⟩ := h
  · exact ⟨x, hx, .inl (by grind)⟩
  · exact ⟨x, hx, .inr ⟨y, hk, hy, by grind⟩⟩
/-- readings left out at the end -/
theorem stopAt_take {lim jump : Rat} {l : List Rat} {k n : Nat} (hk : k < n) : stopAt lim jump (l.take n) k ↔ stopAt lim jump l k := by
  unfold stopAt
  rw [List.getElem?_take, if_pos hk]
  have : (l.take n)[k - 1]? = l[k - 1]? := by rw [List.getElem?_take, if_pos (by omega)]
  rw [this]
theorem sooner_law {lim jump lim' jump' : Rat} {l : List Rat} {k : Nat} {x y z : Int} (h1 : lim' ≤ lim) (h2 : jump' ≤ jump) (hx : StopIs lim jump l x) (hy : StopIs lim' jump' l y) (hz : StopIs lim jump (l.take k) z) :
    (0 ≤ x ∧ x < k → z = x) ∧ (¬ (0 ≤ x ∧ x < k) → z = -1) ∧ (x < 0 ∨ (0 ≤ y ∧ y ≤ x)) := by
  refine ⟨?_, ?_, ?_⟩
  · rintro ⟨h3, h4⟩
    rcases hx with ⟨m, rfl, h5, h6⟩ | ⟨rfl, _⟩
    · refine StopIs.unique hz (.inl ⟨m, rfl, (stopAt_take (by omega)).mpr h5, fun j hj h => h6 j hj ((stopAt_take (by omega)).mp h)⟩)
    · omega
  · intro h3
    refine StopIs.unique hz (.inr ⟨rfl, fun j h => ?_⟩)
    have hj : j < k := by have := stopAt_lt h; rw [List.length_take] at this; omega
    have h4 := (stopAt_take hj).mp h
    rcases hx with ⟨m, rfl, h5, h6⟩ | ⟨rfl, h5⟩
    · rcases Nat.lt_or_ge j m with h7 | h7
      · exact h6 j h7 h4
      · exact h3 ⟨by omega, by omega⟩
    · exact h5 j h4
  · rcases hx with ⟨m, rfl, h5, h6⟩ | ⟨rfl, h5⟩
    · refine .inr ?_
      rcases hy with ⟨m', rfl, h7, h8⟩ | ⟨rfl, h7⟩
      · refine ⟨by omega, ?_⟩
        rcases Nat.lt_or_ge m m' with h9 | h9
        · exact absurd (stopAt_less h1 h2 h5) (h8 m h9)
        · omega
      · exact absurd (stopAt_less h1 h2 h5) (h7 m)
    · exact .inl (by omega)
end Go.Proofs.YtnnbnecpcppkdaaDoor
namespace Go.Proofs.YtnnbnecpcppkdaaDoor
open Go.RowKit Go.Gy
set_option linter.unusedVariables false
def StopPost (lim jump : Rat) (l : List Rat) (x e : Int) : Prop :=
  if 0 < lim ∧ 0 < jump then (if 1000 < l.length then x = 0 ∧ e = 2 else StopIs lim jump l x ∧ e = 0) else x = 0 ∧ e = 1
def StRel (w : World) (r1 r2 : Q3) (l : List Q3) (n : Nat) (i : Value) (wr : World) : Prop := ∃ k : Nat, k ≤ n ∧ i = .int .i64 k ∧ (∀ j, j < k → ¬ stopAt r1.q r2.q (l.map Q3.q) j) ∧ Blk wr w.heap.size 108 #[.bool r1.neg, .string r1.num, .string r1.den, .bool r2.neg, .string r2.num, .string r2.den] ∧ Below w.heap.size w wr
set_option maxRecDepth 100000 in
set_option maxHeartbeats 4000000 in
theorem stop_any (w : World) (r1 r2 : Q3) (h1 : r1.ok) (h2 : r2.ok) (v : Value) (l : List Q3) (hv : SlQ w w.heap.size v l) (hl : ∀ x ∈ l, x.ok) (hT : TabW w) :
    Calls Tryd.prog 68 #[.agg #[.bool r1.neg, .string r1.num, .string r1.den, .bool r2.neg, .string r2.num, .string r2.den], v] w fun e w' => ∃ x k, e = .returned (.tuple #[.int .i64 x, .int .i64 k]) ∧ StopPost r1.q r2.q (l.map Q3.q) x k ∧ Below w.heap.size w w' := by
  have HTW := Lib.hid (fun W hW => TabW.below (w' := W) hT hW)
  have HT := Lib.hid hT
  have HC := Lib.hid (fun W hW => check_any W r1.neg r1.num r1.den r2.neg r2.num r2.den r1.q r2.q rfl rfl (by have := h1.1; omega) (by have := h1.2; omega) (by have := h2.1; omega) (by have := h2.2; omega) (HTW.out W hW))
  obtain ⟨A, n, c, rfl, hln, hnc, hA, hrd⟩ := hv
  have hB : Below w.heap.size w (w.alloc (.cells #[.bool r1.neg, .string r1.num, .string r1.den, .bool r2.neg, .string r2.num, .string r2.den] 108)) := (Below.refl w.heap.size w).alloc (Nat.le_refl _) _
  have kb : Blk (w.alloc (.cells #[.bool r1.neg, .string r1.num, .string r1.den, .bool r2.neg, .string r2.num, .string r2.den] 108)) w.heap.size 108 #[.bool r1.neg, .string r1.num, .string r1.den, .bool r2.neg, .string r2.num, .string r2.den] := Blk.new w _ _
  by_cases hr : 0 < r1.q ∧ 0 < r2.q
  · have hE : ruleE r1.q r2.q = 0 := if_pos hr
    rw [hE] at HC
    by_cases hn : 1000 < n
    · have HP := Lib.hid (show StopPost r1.q r2.q (l.map Q3.q) 0 2 by unfold StopPost; rw [if_pos hr, if_pos (by rw [List.length_map, hln]; exact hn)]; exact ⟨rfl, rfl⟩)
      have hni : (n : Int) > 1000 := by omega
      clear hE hr hrd hnc hA
      go_enter Tryd.func68, Tryd.ntmps68
      go_wp2_with fail
      generalize w.alloc _ = w1 at kb hB ⊢
      refine (HC.out _ hB).mono ?_
      rintro e w2 ⟨rfl, hb⟩
      replace hB := hB.trans (hb.mono hB.size)
      go_wp2
      refine bodyPost_ret (results_tmp2 rfl _ _ _) rfl ?_
      exact ⟨_, _, rfl, HP.out, hB⟩
    · have hni : ¬ (n : Int) > 1000 := by omega
      have HG := Lib.hid (show ∀ x, StopIs r1.q r2.q (l.map Q3.q) x → StopPost r1.q r2.q (l.map Q3.q) x 0 from fun x hx => by unfold StopPost; rw [if_pos hr, if_neg (by rw [List.length_map, hln]; exact hn)]; exact ⟨hx, rfl⟩)
      clear hE hr
      go_enter Tryd.func68, Tryd.ntmps68
      go_wp2_with fail
      generalize w.alloc _ = w1 at kb hB ⊢
      refine (HC.out _ hB).mono ?_
      rintro e w2 ⟨rfl, hb⟩
      replace kb := kb.below hb kb.lt
      replace hB := hB.trans (hb.mono hB.size)
      have hst := Lib.hid (show StRel w r1 r2 l n (.int .i64 0) w2 from ⟨0, Nat.zero_le _, rfl, fun j hj => absurd hj (Nat.not_lt_zero j), kb, hB⟩)
      clear hb kb hB HC
      go_wp2_with fail
      go_loopw [19] (fun i wr => StRel w r1 r2 l n i wr) (fun i _ => n - (intOf i).toNat)
      case atStart => exact hst.out
      case round =>
        obtain ⟨k, hk, rfl, hno, kb, hB⟩ := hrel
        by_cases hkn : k < n
        · have hki : (k : Int) < (n : Int) := by omega
          obtain ⟨x, hx⟩ : ∃ x, l[k]? = some x := ⟨_, List.getElem?_eq_getElem (by omega)⟩
          obtain ⟨b, o, rfl, hbB, e0, e1, e2⟩ := Rd.quot hrd hx
          have hsz := hB.size
          have d0 := (hB.cell (p := ⟨b, o + k * 3, none⟩) hbB).trans e0
          have d1 := (hB.cell (p := ⟨b, o + k * 3 + 1, none⟩) hbB).trans e1
          have d2 := (hB.cell (p := ⟨b, o + k * 3 + 2, none⟩) hbB).trans e2
          have hbn : b < wr.heap.size := by omega
          have hki2 : 0 ≤ (k : Int) ∧ (k : Int) < (n : Int) := by omega
          have HRD := Lib.hid hrd
          clear hrd hst e0 e1 e2
          have hxo : x.le 274877906944 := hl x (List.mem_of_getElem? hx)
          obtain ⟨fa, qa, _, la, A1⟩ := absR w hT x hxo
          obtain ⟨c1, _, p1, _, C1⟩ := cmpR w hT fa r1 la (h1 : r1.le 274877906944)
          rw [qa] at p1
          go_upto_region 9 with (fail)
          go_cut [47] (fun q wx => ∃ bb : Bool, q = .bool bb ∧ (bb = true ↔ stopAt r1.q r2.q (l.map Q3.q) k) ∧ Blk wx w.heap.size 108 #[.bool r1.neg, .string r1.num, .string r1.den, .bool r2.neg, .string r2.num, .string r2.den] ∧ Below w.heap.size w wx)
          case first =>
            have h0 : In w [(w.heap.size, 108, #[.bool r1.neg, .string r1.num, .string r1.den, .bool r2.neg, .string r2.num, .string r2.den])] wr := ⟨hB, by simpa using kb, by simp, by simp⟩
            have hI := h0.alloc 25 #[.bool x.neg, .string x.num, .string x.den]
            have HM := Lib.hid (show ∀ j, (l.map Q3.q)[j]? = (l[j]?).map Q3.q from fun j => List.getElem?_map)
            clear kb hB d0 d1 d2 hT h0
            by_cases g1 : c1 > 0
            · have HB := Lib.hid (show stopAt r1.q r2.q (l.map Q3.q) k from ⟨x.q, by rw [HM.out, hx]; rfl, .inl (p1.mp g1)⟩)
              clear p1
              refine wp_region_in hI (by kernel_rfl) (by kernel_rfl) ?_
              repeat (first
                | (refine wpSeq_off (by rfl) ?_; try simp only [Act.put, List.setIfInBounds_toArray, List.set_cons_zero, List.set_cons_succ])
                | (refine wpSeq_val (v := ?_) (by rfl) (fun W hS => ?_) ?_
                   rotate_left
                   · (have fx := hS.facts; simp only [factsOf, cellsOf, Nat.zero_add, Nat.reduceAdd] at fx; clear hS; go_simp; first | done | with_reducible rfl)
                   try simp only [Act.put, List.setIfInBounds_toArray, List.set_cons_zero, List.set_cons_succ]))
              refine wpSeq_call (v := .agg #[.bool fa.neg, .string fa.num, .string fa.den]) (by rfl) (fun W hS => ?_) (fun W hS => (A1.out W hS.bel)) ?_
              · (clear hS; go_simp; done)
              try simp only [Act.put, List.setIfInBounds_toArray, List.set_cons_zero, List.set_cons_succ]
              repeat (first
                | (refine wpSeq_off (by rfl) ?_; try simp only [Act.put, List.setIfInBounds_toArray, List.set_cons_zero, List.set_cons_succ])
                | (refine wpSeq_val (v := ?_) (by rfl) (fun W hS => ?_) ?_
                   rotate_left
                   · (have fx := hS.facts; simp only [factsOf, cellsOf, Nat.zero_add, Nat.reduceAdd] at fx; clear hS; go_simp; first | done | with_reducible rfl)
                   try simp only [Act.put, List.setIfInBounds_toArray, List.set_cons_zero, List.set_cons_succ]))
              refine wpSeq_call (v := .int .i64 c1) (by rfl) (fun W hS => ?_) (fun W hS => (C1.out W hS.bel)) ?_
              · (clear hS; go_simp; done)
              try simp only [Act.put, List.setIfInBounds_toArray, List.set_cons_zero, List.set_cons_succ]
              repeat (first
                | (refine wpSeq_off (by rfl) ?_; try simp only [Act.put, List.setIfInBounds_toArray, List.set_cons_zero, List.set_cons_succ])
                | (refine wpSeq_val (v := ?_) (by rfl) (fun W hS => ?_) ?_
                   rotate_left
                   · (have fx := hS.facts; simp only [factsOf, cellsOf, Nat.zero_add, Nat.reduceAdd] at fx; clear hS; go_simp; first | done | with_reducible rfl)
                   try simp only [Act.put, List.setIfInBounds_toArray, List.set_cons_zero, List.set_cons_succ]))
              refine wpSeq_nil (fun W hS => ?_)
              go_wp2_with fail
              go_meet
              exact ⟨true, rfl, ⟨fun _ => HB.out, fun _ => rfl⟩, hS.blkAt (k := 1) rfl, hS.bel⟩
            · have P1 := Lib.hid (show ¬ r1.q < absQ x.q from fun h => g1 (p1.mpr h))
              clear p1
              rcases Nat.eq_zero_or_pos k with hk0 | hk0
              · subst hk0
                have HB := Lib.hid (show ¬ stopAt r1.q r2.q (l.map Q3.q) 0 from by
                  rintro ⟨y, hy, h | ⟨z, hz, _⟩⟩
                  · rw [HM.out, hx] at hy
                    cases hy
                    exact P1.out h
                  · exact absurd hz (Nat.lt_irrefl 0))
                refine wp_region_in hI (by kernel_rfl) (by kernel_rfl) ?_
                repeat (first
                  | (refine wpSeq_off (by rfl) ?_; try simp only [Act.put, List.setIfInBounds_toArray, List.set_cons_zero, List.set_cons_succ])
                  | (refine wpSeq_val (v := ?_) (by rfl) (fun W hS => ?_) ?_
                     rotate_left
                     · (have fx := hS.facts; simp only [factsOf, cellsOf, Nat.zero_add, Nat.reduceAdd] at fx; clear hS; go_simp; first | done | with_reducible rfl)
                     try simp only [Act.put, List.setIfInBounds_toArray, List.set_cons_zero, List.set_cons_succ]))
                refine wpSeq_call (v := .agg #[.bool fa.neg, .string fa.num, .string fa.den]) (by rfl) (fun W hS => ?_) (fun W hS => (A1.out W hS.bel)) ?_
                · (clear hS; go_simp; done)
                try simp only [Act.put, List.setIfInBounds_toArray, List.set_cons_zero, List.set_cons_succ]
                repeat (first
                  | (refine wpSeq_off (by rfl) ?_; try simp only [Act.put, List.setIfInBounds_toArray, List.set_cons_zero, List.set_cons_succ])
                  | (refine wpSeq_val (v := ?_) (by rfl) (fun W hS => ?_) ?_
                     rotate_left
                     · (have fx := hS.facts; simp only [factsOf, cellsOf, Nat.zero_add, Nat.reduceAdd] at fx; clear hS; go_simp; first | done | with_reducible rfl)
                     try simp only [Act.put, List.setIfInBounds_toArray, List.set_cons_zero, List.set_cons_succ]))
                refine wpSeq_call (v := .int .i64 c1) (by rfl) (fun W hS => ?_) (fun W hS => (C1.out W hS.bel)) ?_
                · (clear hS; go_simp; done)
                try simp only [Act.put, List.setIfInBounds_toArray, List.set_cons_zero, List.set_cons_succ]
                repeat (first
                  | (refine wpSeq_off (by rfl) ?_; try simp only [Act.put, List.setIfInBounds_toArray, List.set_cons_zero, List.set_cons_succ])
                  | (refine wpSeq_val (v := ?_) (by rfl) (fun W hS => ?_) ?_
                     rotate_left
                     · (have fx := hS.facts; simp only [factsOf, cellsOf, Nat.zero_add, Nat.reduceAdd] at fx; clear hS; go_simp; first | done | with_reducible rfl)
                     try simp only [Act.put, List.setIfInBounds_toArray, List.set_cons_zero, List.set_cons_succ]))
                refine wpSeq_nil (fun W hS => ?_)
                go_wp2_with fail
                go_meet
                exact ⟨false, rfl, ⟨(fun h => by cases h), fun h => absurd h HB.out⟩, hS.blkAt (k := 1) rfl, hS.bel⟩
              · obtain ⟨m, rfl⟩ : ∃ m, k = m + 1 := ⟨k - 1, by omega⟩
                obtain ⟨y, hy⟩ : ∃ y, l[m]? = some y := ⟨_, List.getElem?_eq_getElem (by omega)⟩
                have hyo : y.le 274877906944 := hl y (List.mem_of_getElem? hy)
                obtain ⟨b', o', he, hbB', e0, e1, e2⟩ := Rd.quot HRD.out hy
                cases he
                obtain ⟨fd, qd, _, ld, D1⟩ := subR w HT.out x y hxo hyo
                obtain ⟨fe, qe, _, le, D2⟩ := absR w HT.out fd ld
                obtain ⟨c2, _, p2, _, D3⟩ := cmpR w HT.out fe r2 le (h2 : r2.le 274877906944)
                rw [qe, qd] at p2
                have E := Lib.hid (fun W (hW : Below w.heap.size w W) => (⟨(hW.cell (p := ⟨b, o + m * 3, none⟩) hbB).trans e0, (hW.cell (p := ⟨b, o + m * 3 + 1, none⟩) hbB).trans e1, (hW.cell (p := ⟨b, o + m * 3 + 2, none⟩) hbB).trans e2⟩ : And _ (And _ _)))
                obtain ⟨bb, hbb⟩ : ∃ bb, bb = decide (c2 > 0) := ⟨_, rfl⟩
                have HB := Lib.hid (show bb = true ↔ stopAt r1.q r2.q (l.map Q3.q) (m + 1) from by
                  rw [hbb, decide_eq_true_iff, show (c2 > 0 ↔ r2.q < absQ (x.q - y.q)) from p2]
                  constructor
                  · intro h
                    exact ⟨x.q, by rw [HM.out, hx]; rfl, .inr ⟨y.q, Nat.succ_pos m, by rw [Nat.add_sub_cancel, HM.out, hy]; rfl, h⟩⟩
                  · rintro ⟨x', hx', h | ⟨y', _, hy', h⟩⟩
                    · rw [HM.out, hx] at hx'; cases hx'; exact absurd h P1.out
                    · rw [HM.out, hx] at hx'; cases hx'
                      rw [Nat.add_sub_cancel, HM.out, hy] at hy'; cases hy'; exact h)
                have hw1 : IntKind.i64.wrap (m : Int) = (m : Int) := by rw [IntKind.wrap_i64]; omega
                have hm1 : 0 ≤ (m : Int) ∧ (m : Int) < (n : Int) := by omega
                have hm0 : (0 : Int) < ((m + 1 : Nat) : Int) := by omega
                have hm2 : ((m + 1 : Nat) : Int) - 1 = (m : Int) := by omega
                clear e0 e1 e2 hx hy p2 hxo hyo
                refine wp_region_in hI (by kernel_rfl) (by kernel_rfl) ?_
                repeat (first
                  | (refine wpSeq_off (by rfl) ?_; try simp only [Act.put, List.setIfInBounds_toArray, List.set_cons_zero, List.set_cons_succ])
                  | (refine wpSeq_val (v := ?_) (by rfl) (fun W hS => ?_) ?_
                     rotate_left
                     · (have fx := hS.facts; simp only [factsOf, cellsOf, Nat.zero_add, Nat.reduceAdd] at fx; clear hS; go_simp; first | done | with_reducible rfl)
                     try simp only [Act.put, List.setIfInBounds_toArray, List.set_cons_zero, List.set_cons_succ]))
                refine wpSeq_call (v := .agg #[.bool fa.neg, .string fa.num, .string fa.den]) (by rfl) (fun W hS => ?_) (fun W hS => (A1.out W hS.bel)) ?_
                · (clear hS; go_simp; done)
                try simp only [Act.put, List.setIfInBounds_toArray, List.set_cons_zero, List.set_cons_succ]
                repeat (first
                  | (refine wpSeq_off (by rfl) ?_; try simp only [Act.put, List.setIfInBounds_toArray, List.set_cons_zero, List.set_cons_succ])
                  | (refine wpSeq_val (v := ?_) (by rfl) (fun W hS => ?_) ?_
                     rotate_left
                     · (have fx := hS.facts; simp only [factsOf, cellsOf, Nat.zero_add, Nat.reduceAdd] at fx; clear hS; go_simp; first | done | with_reducible rfl)
                     try simp only [Act.put, List.setIfInBounds_toArray, List.set_cons_zero, List.set_cons_succ]))
                refine wpSeq_call (v := .int .i64 c1) (by rfl) (fun W hS => ?_) (fun W hS => (C1.out W hS.bel)) ?_
                · (clear hS; go_simp; done)
                try simp only [Act.put, List.setIfInBounds_toArray, List.set_cons_zero, List.set_cons_succ]
                repeat (first
                  | (refine wpSeq_off (by rfl) ?_; try simp only [Act.put, List.setIfInBounds_toArray, List.set_cons_zero, List.set_cons_succ])
                  | (refine wpSeq_val (v := ?_) (by rfl) (fun W hS => ?_) ?_
                     rotate_left
                     · (have fx := hS.facts; simp only [factsOf, cellsOf, Nat.zero_add, Nat.reduceAdd] at fx; have fy0 := E.out W hS.bel; clear hS; go_simp; first | done | with_reducible rfl)
                     try simp only [Act.put, List.setIfInBounds_toArray, List.set_cons_zero, List.set_cons_succ]))
                refine wpSeq_call (v := .agg #[.bool fd.neg, .string fd.num, .string fd.den]) (by rfl) (fun W hS => ?_) (fun W hS => (D1.out W hS.bel)) ?_
                · (clear hS; go_simp; done)
                try simp only [Act.put, List.setIfInBounds_toArray, List.set_cons_zero, List.set_cons_succ]
                repeat (first
                  | (refine wpSeq_off (by rfl) ?_; try simp only [Act.put, List.setIfInBounds_toArray, List.set_cons_zero, List.set_cons_succ])
                  | (refine wpSeq_val (v := ?_) (by rfl) (fun W hS => ?_) ?_
                     rotate_left
                     · (have fx := hS.facts; simp only [factsOf, cellsOf, Nat.zero_add, Nat.reduceAdd] at fx; clear hS; go_simp; first | done | with_reducible rfl)
                     try simp only [Act.put, List.setIfInBounds_toArray, List.set_cons_zero, List.set_cons_succ]))
                refine wpSeq_call (v := .agg #[.bool fe.neg, .string fe.num, .string fe.den]) (by rfl) (fun W hS => ?_) (fun W hS => (D2.out W hS.bel)) ?_
                · (clear hS; go_simp; done)
                try simp only [Act.put, List.setIfInBounds_toArray, List.set_cons_zero, List.set_cons_succ]
                repeat (first
                  | (refine wpSeq_off (by rfl) ?_; try simp only [Act.put, List.setIfInBounds_toArray, List.set_cons_zero, List.set_cons_succ])
                  | (refine wpSeq_val (v := ?_) (by rfl) (fun W hS => ?_) ?_
                     rotate_left
                     · (have fx := hS.facts; simp only [factsOf, cellsOf, Nat.zero_add, Nat.reduceAdd] at fx; clear hS; go_simp; first | done | with_reducible rfl)
                     try simp only [Act.put, List.setIfInBounds_toArray, List.set_cons_zero, List.set_cons_succ]))
                refine wpSeq_call (v := .int .i64 c2) (by rfl) (fun W hS => ?_) (fun W hS => (D3.out W hS.bel)) ?_
                · (clear hS; go_simp; done)
                try simp only [Act.put, List.setIfInBounds_toArray, List.set_cons_zero, List.set_cons_succ]
                repeat (first
                  | (refine wpSeq_off (by rfl) ?_; try simp only [Act.put, List.setIfInBounds_toArray, List.set_cons_zero, List.set_cons_succ])
                  | (refine wpSeq_val (v := ?_) (by rfl) (fun W hS => ?_) ?_
                     rotate_left
                     · (have fx := hS.facts; simp only [factsOf, cellsOf, Nat.zero_add, Nat.reduceAdd] at fx; clear hS; go_simp; first | done | with_reducible rfl)
                     try simp only [Act.put, List.setIfInBounds_toArray, List.set_cons_zero, List.set_cons_succ]))
                refine wpSeq_nil (fun W hS => ?_)
                go_wp2_with fail
                go_meet
                exact ⟨bb, by rw [hbb], HB.out, hS.blkAt (k := 1) rfl, hS.bel⟩
          case rest =>
            clear kb hB d0 d1 d2 A1 C1
            obtain ⟨bb, rfl, hbb, kb, hB⟩ := hcut
            cases bb
            · have hns : ¬ stopAt r1.q r2.q (l.map Q3.q) k := fun h => by cases hbb.mpr h
              have HN := Lib.hid (show StRel w r1 r2 l n (.int .i64 ((k : Int) + 1)) wc from ⟨k + 1, hkn, by simp, fun j hj => by
                rcases Nat.lt_or_ge j k with h | h
                · exact hno j h
                · rw [show j = k by omega]; exact hns, kb, hB⟩)
              have hw1 : IntKind.i64.wrap ((k : Int) + 1) = (k : Int) + 1 := by rw [IntKind.wrap_i64]; omega
              clear hbb kb hB hns hno
              go_wp2_with fail
              go_roundw
              case rel => exact HN.out
              case measure => simp [intOf]; omega
            · have HX := Lib.hid (HG.out k (.inl ⟨k, rfl, hbb.mp rfl, hno⟩))
              clear hbb kb hno HG
              go_wp2
              refine bodyPost_ret (results_tmp2 rfl _ _ _) rfl ?_
              exact ⟨_, _, rfl, HX.out, hB⟩
        · have hkn2 : k = n := by omega
          subst hkn2
          have hki : ¬ (k : Int) < (k : Int) := by omega
          have HX := Lib.hid (HG.out (-1) (.inr ⟨rfl, fun j h => hno j (by have := stopAt_lt h; rw [List.length_map, hln] at this; exact this) h⟩))
          clear hno hrd hst HG kb
          go_wp2
          refine bodyPost_ret (results_tmp2 rfl _ _ _) rfl ?_
          exact ⟨_, _, rfl, HX.out, hB⟩
  · have hE : ruleE r1.q r2.q = 1 := if_neg hr
    rw [hE] at HC
    have HP := Lib.hid (show StopPost r1.q r2.q (l.map Q3.q) 0 1 by unfold StopPost; rw [if_neg hr]; exact ⟨rfl, rfl⟩)
    clear hE hr hrd hnc hA
    go_enter Tryd.func68, Tryd.ntmps68
    go_wp2_with fail
    generalize w.alloc _ = w1 at kb hB ⊢
    refine (HC.out _ hB).mono ?_
    rintro e w2 ⟨rfl, hb⟩
    replace hB := hB.trans (hb.mono hB.size)
    go_wp2
    refine bodyPost_ret (results_tmp2 rfl _ _ _) rfl ?_
    exact ⟨_, _, rfl, HP.out, hB⟩
end Go.Proofs.YtnnbnecpcppkdaaDoor
namespace Go.Proofs.YtnnbnecpcppkdaaDoor
open Go.RowKit Go.Gy
set_option linter.unusedVariables false
/-- a block that holds a row of numbers, as a slice -/
theorem In.slq {w W : World} {l : List (Nat × TypeId × Array Value)} (h : In w l W) {k g : Nat} {t : TypeId} {cs : Array Value} (hk : l[k]? = some (g, t, cs)) (r : List Q3) (hr : cs.toList = r.flatMap encQ) : SlQ W W.heap.size (.slice (some ⟨g, 0, none⟩) r.length r.length) r := by
  refine ⟨_, _, _, rfl, rfl, Nat.le_refl _, (fun hA => by cases hA), flatQ_length r, fun _ => ⟨g, 0, rfl, h.lt hk, fun j u hj => ?_⟩⟩
  rw [Nat.zero_add]
  exact h.cell hk (by rw [hr]; exact hj)
theorem stopAt0 : StopIs 1 9 [0, 3] 1 := by
  refine .inl ⟨1, rfl, ⟨3, rfl, .inl (by decide)⟩, fun j hj => ?_⟩
  obtain rfl : j = 0 := by omega
  rintro ⟨x, hx, h | ⟨y, h, _⟩⟩
  · cases hx; exact absurd h (by decide)
  · exact absurd h (Nat.lt_irrefl 0)
set_option maxRecDepth 100000 in
set_option maxHeartbeats 4000000 in
theorem feels_any (w : World) (hT : TabW w) : Calls Tryd.prog 21 #[] w fun e w' => e = .returned (.bool true) ∧ Below w.heap.size w w' := by
  obtain ⟨z1, q1, _, l1, O1⟩ := ofR w hT 1
  obtain ⟨z9, q9, _, l9, O9⟩ := ofR w hT 9
  obtain ⟨z0, q0, _, l0, O0⟩ := ofR w hT 0
  obtain ⟨z3, q3, _, l3, O3⟩ := ofR w hT 3
  have hI := In.start w
  have HT := Lib.hid hT
  clear hT
  go_enter Tryd.func21, Tryd.ntmps21
  go_wp2_with fail
  refine (O1.out _ hI.bel).mono ?_
  rintro e wn ⟨rfl, hb⟩
  replace hI := hI.call hb
  clear hb
  go_wp2_with fail
  refine (O9.out _ hI.bel).mono ?_
  rintro e wn ⟨rfl, hb⟩
  replace hI := hI.call hb
  clear hb
  go_wp2_with fail
  refine (O0.out _ hI.bel).mono ?_
  rintro e wn ⟨rfl, hb⟩
  replace hI := hI.call hb
  clear hb
  go_wp2_with fail
  refine (O3.out _ hI.bel).mono ?_
  rintro e wn ⟨rfl, hb⟩
  replace hI := hI.call hb
  clear hb
  go_wp2_with fail
  have hJ := hI.alloc 25 #[.bool z0.neg, .string z0.num, .string z0.den, .bool z3.neg, .string z3.num, .string z3.den]
  generalize World.alloc _ _ = W at hJ ⊢
  have hs := hJ.slq (k := 0) rfl [z0, z3] rfl
  refine (stop_any W z1 z9 (l1.more (by decide)) (l9.more (by decide)) _ [z0, z3] hs (fun x hx => by
    rcases List.mem_cons.1 hx with rfl | hx
    · exact l0.more (by decide)
    · rcases List.mem_cons.1 hx with rfl | hx
      · exact l3.more (by decide)
      · cases hx) (tabs w HT.out hJ.bel)).mono ?_
  rintro e wn' ⟨x, k, rfl, hp, hb⟩
  have hp2 : x = 1 ∧ k = 0 := by
    unfold StopPost at hp
    rw [q1, q9, if_pos ⟨by decide, by decide⟩, if_neg (by rw [List.length_map]; simp)] at hp
    refine ⟨StopIs.unique hp.1 ?_, hp.2⟩
    rw [List.map_cons, List.map_cons, List.map_nil, q0, q3]
    exact stopAt0
  obtain ⟨rfl, rfl⟩ := hp2
  replace hJ := hJ.call hb
  clear hb hp hs
  go_wp2
  go_ret
  exact ⟨rfl, hJ.bel⟩
end Go.Proofs.YtnnbnecpcppkdaaDoor
