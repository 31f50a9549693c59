/- rat.Small, arm.small. Slices of links; arms. arm.check. arm.IsName, arm.Check. arm.Check, stop.fits. Conditions: those typed. -/
import Derived.Test.YtnnbnecpcppkdaaDoorMakeQ
import Derived.Test.YtnnbnecpcppkdaaDoorKeep
import Derived.Test.YtnnbnecpcppkdaaDoorPolyC
import Derived.Test.YtnnbnecpcppkdaaDoorPts
import Derived.Test.YtnnbnecpcppkdaaDoorStopA
import Derived.Test.YtnnbnecpcppkdaaDoorFeelS
namespace Go.Proofs.YtnnbnecpcppkdaaDoor
open Go.RowKit Go.Gy
set_option linter.unusedVariables false
def SmallP (x : Q3) : Prop := x.num.size ≤ 3 ∧ x.den.size ≤ 2 ∧ GoodR x.neg x.num x.den ∧ sval x.num ≤ 1000000 ∧ sval x.den ≤ 1000
instance (x : Q3) : Decidable (SmallP x) := by unfold SmallP; infer_instance
theorem cmpN_le {a n : Nat} (h : a ≤ n) : cmpN a (sval (natS n)) ≤ 0 := by
  rw [sval_natS]; unfold cmpN; split
  · decide
  · split
    · omega
    · decide
theorem cmpN_nle {a n : Nat} (h : ¬ a ≤ n) : ¬ cmpN a (sval (natS n)) ≤ 0 := by
  rw [sval_natS]; unfold cmpN; split
  · omega
  · split
    · decide
    · omega
set_option maxRecDepth 100000 in
set_option maxHeartbeats 4000000 in
theorem smallR (w : World) (hT : TabW w) (x : Q3) {N : Nat} (hx : x.le N) (hN : N ≤ 8796093022208 := by omega) :
    Hid (∀ W, Below w.heap.size w W → Calls Tryd.prog 118 #[.agg #[.bool x.neg, .string x.num, .string x.den]] W fun r w' => r = .returned (.bool (decide (SmallP x))) ∧ Below W.heap.size W w') := by
  refine Lib.hid fun W0 hW0 => ?_
  have hT0 := tabs w hT hW0
  have G1 := Lib.hid (fun W (hW : Below W0.heap.size W0 W) => good_any W x.neg x.num x.den (by have := hx.1; omega) (by have := hx.2; omega) (tabs W0 hT0 hW))
  have O1 := Lib.hid (fun W (hW : Below W0.heap.size W0 W) => of_any W 1000000 (by omega))
  have O2 := Lib.hid (fun W (hW : Below W0.heap.size W0 W) => of_any W 1000 (by omega))
  rw [show (1000000 : Int).toNat = 1000000 from rfl] at O1
  rw [show (1000 : Int).toNat = 1000 from rfl] at O2
  have hn1 : (natS 1000000).size ≤ 140737488355328 := by decide +kernel
  have hn2 : (natS 1000).size ≤ 140737488355328 := by decide +kernel
  have C1 := Lib.hid (fun W (hW : Below W0.heap.size W0 W) => (cmp_any W x.num (natS 1000000) (by have := hx.1; omega) hn1).mono fun e w' h => (⟨h.1, h.2 ▸ Below.refl _ _⟩ : e = .returned (.int .i64 (cmpN (sval x.num) (sval (natS 1000000)))) ∧ Below W.heap.size W w'))
  have C2 := Lib.hid (fun W (hW : Below W0.heap.size W0 W) => (cmp_any W x.den (natS 1000) (by have := hx.2; omega) hn2).mono fun e w' h => (⟨h.1, h.2 ▸ Below.refl _ _⟩ : e = .returned (.int .i64 (cmpN (sval x.den) (sval (natS 1000)))) ∧ Below W.heap.size W w'))
  have hI := (In.start W0).alloc 25 #[.bool x.neg, .string x.num, .string x.den]
  obtain ⟨res, hres⟩ : ∃ res, res = decide (SmallP x) := ⟨_, rfl⟩
  rw [← hres]
  have HR := Lib.hid hres
  clear hn1 hn2 hT hT0 hW0 hres
  go_enter Tryd.func118, Tryd.ntmps118
  go_upto_region 1 with (fail)
  generalize World.alloc _ _ = W1 at hI ⊢
  by_cases h1 : x.num.size ≤ 3
  · skip
    have g1 : (x.num.size : Int) ≤ 3 := by omega
    by_cases h2 : x.den.size ≤ 2
    · skip
      have g2 : (x.den.size : Int) ≤ 2 := by omega
      by_cases h3 : GoodR x.neg x.num x.den
      · skip
        by_cases h4 : sval x.num ≤ 1000000
        · skip
          have g4 := cmpN_le h4
          by_cases h5 : sval x.den ≤ 1000
          · skip
            have g5 := cmpN_le h5
            have HP := Lib.hid (show res = true from HR.out.trans <| decide_eq_true ⟨h1, h2, h3, h4, h5⟩)
            rw [decide_eq_true h3] at G1
            refine wp_region_in hI (by kernel_rfl) (by kernel_rfl) ?_
            repeat (first
              | (refine wpSeq_off (by rfl) ?_; try simp only [Act.put, List.setIfInBounds_toArray, List.set_cons_zero, List.set_cons_succ])
              | (refine wpSeq_val (v := ?_) (by rfl) (fun W hS => ?_) ?_
                 rotate_left
                 · (have fx := hS.facts; simp only [factsOf, cellsOf, Nat.zero_add, Nat.reduceAdd] at fx; clear hS; go_simp; first | done | with_reducible rfl)
                 try simp only [Act.put, List.setIfInBounds_toArray, List.set_cons_zero, List.set_cons_succ]))
            refine wpSeq_call (v := .bool true) (by rfl) (fun W hS => ?_) (fun W hS => (G1.out W hS.bel)) ?_
            · (clear hS; go_simp; done)
            try simp only [Act.put, List.setIfInBounds_toArray, List.set_cons_zero, List.set_cons_succ]
            repeat (first
              | (refine wpSeq_off (by rfl) ?_; try simp only [Act.put, List.setIfInBounds_toArray, List.set_cons_zero, List.set_cons_succ])
              | (refine wpSeq_val (v := ?_) (by rfl) (fun W hS => ?_) ?_
                 rotate_left
                 · (have fx := hS.facts; simp only [factsOf, cellsOf, Nat.zero_add, Nat.reduceAdd] at fx; clear hS; go_simp; first | done | with_reducible rfl)
                 try simp only [Act.put, List.setIfInBounds_toArray, List.set_cons_zero, List.set_cons_succ]))
            refine wpSeq_call (v := .string (natS 1000000)) (by rfl) (fun W hS => ?_) (fun W hS => (O1.out W hS.bel)) ?_
            · (clear hS; go_simp; done)
            try simp only [Act.put, List.setIfInBounds_toArray, List.set_cons_zero, List.set_cons_succ]
            repeat (first
              | (refine wpSeq_off (by rfl) ?_; try simp only [Act.put, List.setIfInBounds_toArray, List.set_cons_zero, List.set_cons_succ])
              | (refine wpSeq_val (v := ?_) (by rfl) (fun W hS => ?_) ?_
                 rotate_left
                 · (have fx := hS.facts; simp only [factsOf, cellsOf, Nat.zero_add, Nat.reduceAdd] at fx; clear hS; go_simp; first | done | with_reducible rfl)
                 try simp only [Act.put, List.setIfInBounds_toArray, List.set_cons_zero, List.set_cons_succ]))
            refine wpSeq_call (v := .int .i64 (cmpN (sval x.num) (sval (natS 1000000)))) (by rfl) (fun W hS => ?_) (fun W hS => (C1.out W hS.bel)) ?_
            · (clear hS; go_simp; done)
            try simp only [Act.put, List.setIfInBounds_toArray, List.set_cons_zero, List.set_cons_succ]
            repeat (first
              | (refine wpSeq_off (by rfl) ?_; try simp only [Act.put, List.setIfInBounds_toArray, List.set_cons_zero, List.set_cons_succ])
              | (refine wpSeq_val (v := ?_) (by rfl) (fun W hS => ?_) ?_
                 rotate_left
                 · (have fx := hS.facts; simp only [factsOf, cellsOf, Nat.zero_add, Nat.reduceAdd] at fx; clear hS; go_simp; first | done | with_reducible rfl)
                 try simp only [Act.put, List.setIfInBounds_toArray, List.set_cons_zero, List.set_cons_succ]))
            refine wpSeq_call (v := .string (natS 1000)) (by rfl) (fun W hS => ?_) (fun W hS => (O2.out W hS.bel)) ?_
            · (clear hS; go_simp; done)
            try simp only [Act.put, List.setIfInBounds_toArray, List.set_cons_zero, List.set_cons_succ]
            repeat (first
              | (refine wpSeq_off (by rfl) ?_; try simp only [Act.put, List.setIfInBounds_toArray, List.set_cons_zero, List.set_cons_succ])
              | (refine wpSeq_val (v := ?_) (by rfl) (fun W hS => ?_) ?_
                 rotate_left
                 · (have fx := hS.facts; simp only [factsOf, cellsOf, Nat.zero_add, Nat.reduceAdd] at fx; clear hS; go_simp; first | done | with_reducible rfl)
                 try simp only [Act.put, List.setIfInBounds_toArray, List.set_cons_zero, List.set_cons_succ]))
            refine wpSeq_call (v := .int .i64 (cmpN (sval x.den) (sval (natS 1000)))) (by rfl) (fun W hS => ?_) (fun W hS => (C2.out W hS.bel)) ?_
            · (clear hS; go_simp; done)
            try simp only [Act.put, List.setIfInBounds_toArray, List.set_cons_zero, List.set_cons_succ]
            repeat (first
              | (refine wpSeq_off (by rfl) ?_; try simp only [Act.put, List.setIfInBounds_toArray, List.set_cons_zero, List.set_cons_succ])
              | (refine wpSeq_val (v := ?_) (by rfl) (fun W hS => ?_) ?_
                 rotate_left
                 · (have fx := hS.facts; simp only [factsOf, cellsOf, Nat.zero_add, Nat.reduceAdd] at fx; clear hS; go_simp; first | done | with_reducible rfl)
                 try simp only [Act.put, List.setIfInBounds_toArray, List.set_cons_zero, List.set_cons_succ]))
            refine wpSeq_nil (fun W hS => ?_)
            go_wp2
            go_ret
            exact ⟨congrArg (fun b => Ending.returned (.bool b)) HP.out.symm, hS.bel⟩
          · skip
            have g5 := cmpN_nle h5
            have HP := Lib.hid (show res = false from HR.out.trans <| decide_eq_false fun hs => h5 hs.2.2.2.2)
            rw [decide_eq_true h3] at G1
            refine wp_region_in hI (by kernel_rfl) (by kernel_rfl) ?_
            repeat (first
              | (refine wpSeq_off (by rfl) ?_; try simp only [Act.put, List.setIfInBounds_toArray, List.set_cons_zero, List.set_cons_succ])
              | (refine wpSeq_val (v := ?_) (by rfl) (fun W hS => ?_) ?_
                 rotate_left
                 · (have fx := hS.facts; simp only [factsOf, cellsOf, Nat.zero_add, Nat.reduceAdd] at fx; clear hS; go_simp; first | done | with_reducible rfl)
                 try simp only [Act.put, List.setIfInBounds_toArray, List.set_cons_zero, List.set_cons_succ]))
            refine wpSeq_call (v := .bool true) (by rfl) (fun W hS => ?_) (fun W hS => (G1.out W hS.bel)) ?_
            · (clear hS; go_simp; done)
            try simp only [Act.put, List.setIfInBounds_toArray, List.set_cons_zero, List.set_cons_succ]
            repeat (first
              | (refine wpSeq_off (by rfl) ?_; try simp only [Act.put, List.setIfInBounds_toArray, List.set_cons_zero, List.set_cons_succ])
              | (refine wpSeq_val (v := ?_) (by rfl) (fun W hS => ?_) ?_
                 rotate_left
                 · (have fx := hS.facts; simp only [factsOf, cellsOf, Nat.zero_add, Nat.reduceAdd] at fx; clear hS; go_simp; first | done | with_reducible rfl)
                 try simp only [Act.put, List.setIfInBounds_toArray, List.set_cons_zero, List.set_cons_succ]))
            refine wpSeq_call (v := .string (natS 1000000)) (by rfl) (fun W hS => ?_) (fun W hS => (O1.out W hS.bel)) ?_
            · (clear hS; go_simp; done)
            try simp only [Act.put, List.setIfInBounds_toArray, List.set_cons_zero, List.set_cons_succ]
            repeat (first
              | (refine wpSeq_off (by rfl) ?_; try simp only [Act.put, List.setIfInBounds_toArray, List.set_cons_zero, List.set_cons_succ])
              | (refine wpSeq_val (v := ?_) (by rfl) (fun W hS => ?_) ?_
                 rotate_left
                 · (have fx := hS.facts; simp only [factsOf, cellsOf, Nat.zero_add, Nat.reduceAdd] at fx; clear hS; go_simp; first | done | with_reducible rfl)
                 try simp only [Act.put, List.setIfInBounds_toArray, List.set_cons_zero, List.set_cons_succ]))
            refine wpSeq_call (v := .int .i64 (cmpN (sval x.num) (sval (natS 1000000)))) (by rfl) (fun W hS => ?_) (fun W hS => (C1.out W hS.bel)) ?_
            · (clear hS; go_simp; done)
            try simp only [Act.put, List.setIfInBounds_toArray, List.set_cons_zero, List.set_cons_succ]
            repeat (first
              | (refine wpSeq_off (by rfl) ?_; try simp only [Act.put, List.setIfInBounds_toArray, List.set_cons_zero, List.set_cons_succ])
              | (refine wpSeq_val (v := ?_) (by rfl) (fun W hS => ?_) ?_
                 rotate_left
                 · (have fx := hS.facts; simp only [factsOf, cellsOf, Nat.zero_add, Nat.reduceAdd] at fx; clear hS; go_simp; first | done | with_reducible rfl)
                 try simp only [Act.put, List.setIfInBounds_toArray, List.set_cons_zero, List.set_cons_succ]))
            refine wpSeq_call (v := .string (natS 1000)) (by rfl) (fun W hS => ?_) (fun W hS => (O2.out W hS.bel)) ?_
            · (clear hS; go_simp; done)
            try simp only [Act.put, List.setIfInBounds_toArray, List.set_cons_zero, List.set_cons_succ]
            repeat (first
              | (refine wpSeq_off (by rfl) ?_; try simp only [Act.put, List.setIfInBounds_toArray, List.set_cons_zero, List.set_cons_succ])
              | (refine wpSeq_val (v := ?_) (by rfl) (fun W hS => ?_) ?_
                 rotate_left
                 · (have fx := hS.facts; simp only [factsOf, cellsOf, Nat.zero_add, Nat.reduceAdd] at fx; clear hS; go_simp; first | done | with_reducible rfl)
                 try simp only [Act.put, List.setIfInBounds_toArray, List.set_cons_zero, List.set_cons_succ]))
            refine wpSeq_call (v := .int .i64 (cmpN (sval x.den) (sval (natS 1000)))) (by rfl) (fun W hS => ?_) (fun W hS => (C2.out W hS.bel)) ?_
            · (clear hS; go_simp; done)
            try simp only [Act.put, List.setIfInBounds_toArray, List.set_cons_zero, List.set_cons_succ]
            repeat (first
              | (refine wpSeq_off (by rfl) ?_; try simp only [Act.put, List.setIfInBounds_toArray, List.set_cons_zero, List.set_cons_succ])
              | (refine wpSeq_val (v := ?_) (by rfl) (fun W hS => ?_) ?_
                 rotate_left
                 · (have fx := hS.facts; simp only [factsOf, cellsOf, Nat.zero_add, Nat.reduceAdd] at fx; clear hS; go_simp; first | done | with_reducible rfl)
                 try simp only [Act.put, List.setIfInBounds_toArray, List.set_cons_zero, List.set_cons_succ]))
            refine wpSeq_nil (fun W hS => ?_)
            go_wp2
            go_ret
            exact ⟨congrArg (fun b => Ending.returned (.bool b)) HP.out.symm, hS.bel⟩
        · skip
          have g4 := cmpN_nle h4
          have HP := Lib.hid (show res = false from HR.out.trans <| decide_eq_false fun hs => h4 hs.2.2.2.1)
          rw [decide_eq_true h3] at G1
          refine wp_region_in hI (by kernel_rfl) (by kernel_rfl) ?_
          repeat (first
            | (refine wpSeq_off (by rfl) ?_; try simp only [Act.put, List.setIfInBounds_toArray, List.set_cons_zero, List.set_cons_succ])
            | (refine wpSeq_val (v := ?_) (by rfl) (fun W hS => ?_) ?_
               rotate_left
               · (have fx := hS.facts; simp only [factsOf, cellsOf, Nat.zero_add, Nat.reduceAdd] at fx; clear hS; go_simp; first | done | with_reducible rfl)
               try simp only [Act.put, List.setIfInBounds_toArray, List.set_cons_zero, List.set_cons_succ]))
          refine wpSeq_call (v := .bool true) (by rfl) (fun W hS => ?_) (fun W hS => (G1.out W hS.bel)) ?_
          · (clear hS; go_simp; done)
          try simp only [Act.put, List.setIfInBounds_toArray, List.set_cons_zero, List.set_cons_succ]
          repeat (first
            | (refine wpSeq_off (by rfl) ?_; try simp only [Act.put, List.setIfInBounds_toArray, List.set_cons_zero, List.set_cons_succ])
            | (refine wpSeq_val (v := ?_) (by rfl) (fun W hS => ?_) ?_
               rotate_left
               · (have fx := hS.facts; simp only [factsOf, cellsOf, Nat.zero_add, Nat.reduceAdd] at fx; clear hS; go_simp; first | done | with_reducible rfl)
               try simp only [Act.put, List.setIfInBounds_toArray, List.set_cons_zero, List.set_cons_succ]))
          refine wpSeq_call (v := .string (natS 1000000)) (by rfl) (fun W hS => ?_) (fun W hS => (O1.out W hS.bel)) ?_
          · (clear hS; go_simp; done)
          try simp only [Act.put, List.setIfInBounds_toArray, List.set_cons_zero, List.set_cons_succ]
          repeat (first
            | (refine wpSeq_off (by rfl) ?_; try simp only [Act.put, List.setIfInBounds_toArray, List.set_cons_zero, List.set_cons_succ])
            | (refine wpSeq_val (v := ?_) (by rfl) (fun W hS => ?_) ?_
               rotate_left
               · (have fx := hS.facts; simp only [factsOf, cellsOf, Nat.zero_add, Nat.reduceAdd] at fx; clear hS; go_simp; first | done | with_reducible rfl)
               try simp only [Act.put, List.setIfInBounds_toArray, List.set_cons_zero, List.set_cons_succ]))
          refine wpSeq_call (v := .int .i64 (cmpN (sval x.num) (sval (natS 1000000)))) (by rfl) (fun W hS => ?_) (fun W hS => (C1.out W hS.bel)) ?_
          · (clear hS; go_simp; done)
          try simp only [Act.put, List.setIfInBounds_toArray, List.set_cons_zero, List.set_cons_succ]
          repeat (first
            | (refine wpSeq_off (by rfl) ?_; try simp only [Act.put, List.setIfInBounds_toArray, List.set_cons_zero, List.set_cons_succ])
            | (refine wpSeq_val (v := ?_) (by rfl) (fun W hS => ?_) ?_
               rotate_left
               · (have fx := hS.facts; simp only [factsOf, cellsOf, Nat.zero_add, Nat.reduceAdd] at fx; clear hS; go_simp; first | done | with_reducible rfl)
               try simp only [Act.put, List.setIfInBounds_toArray, List.set_cons_zero, List.set_cons_succ]))
          refine wpSeq_nil (fun W hS => ?_)
          go_wp2
          go_ret
          exact ⟨congrArg (fun b => Ending.returned (.bool b)) HP.out.symm, hS.bel⟩
      · skip
        have HP := Lib.hid (show res = false from HR.out.trans <| decide_eq_false fun hs => h3 hs.2.2.1)
        rw [decide_eq_false h3] at G1
        refine wp_region_in hI (by kernel_rfl) (by kernel_rfl) ?_
        repeat (first
          | (refine wpSeq_off (by rfl) ?_; try simp only [Act.put, List.setIfInBounds_toArray, List.set_cons_zero, List.set_cons_succ])
          | (refine wpSeq_val (v := ?_) (by rfl) (fun W hS => ?_) ?_
             rotate_left
             · (have fx := hS.facts; simp only [factsOf, cellsOf, Nat.zero_add, Nat.reduceAdd] at fx; clear hS; go_simp; first | done | with_reducible rfl)
             try simp only [Act.put, List.setIfInBounds_toArray, List.set_cons_zero, List.set_cons_succ]))
        refine wpSeq_call (v := .bool false) (by rfl) (fun W hS => ?_) (fun W hS => (G1.out W hS.bel)) ?_
        · (clear hS; go_simp; done)
        try simp only [Act.put, List.setIfInBounds_toArray, List.set_cons_zero, List.set_cons_succ]
        repeat (first
          | (refine wpSeq_off (by rfl) ?_; try simp only [Act.put, List.setIfInBounds_toArray, List.set_cons_zero, List.set_cons_succ])
          | (refine wpSeq_val (v := ?_) (by rfl) (fun W hS => ?_) ?_
             rotate_left
             · (have fx := hS.facts; simp only [factsOf, cellsOf, Nat.zero_add, Nat.reduceAdd] at fx; clear hS; go_simp; first | done | with_reducible rfl)
             try simp only [Act.put, List.setIfInBounds_toArray, List.set_cons_zero, List.set_cons_succ]))
        refine wpSeq_nil (fun W hS => ?_)
        go_wp2
        go_ret
        exact ⟨congrArg (fun b => Ending.returned (.bool b)) HP.out.symm, hS.bel⟩
    · skip
      have g2 : ¬ (x.den.size : Int) ≤ 2 := by omega
      have HP := Lib.hid (show res = false from HR.out.trans <| decide_eq_false fun hs => h2 hs.2.1)
      refine wp_region_in hI (by kernel_rfl) (by kernel_rfl) ?_
      repeat (first
        | (refine wpSeq_off (by rfl) ?_; try simp only [Act.put, List.setIfInBounds_toArray, List.set_cons_zero, List.set_cons_succ])
        | (refine wpSeq_val (v := ?_) (by rfl) (fun W hS => ?_) ?_
           rotate_left
           · (have fx := hS.facts; simp only [factsOf, cellsOf, Nat.zero_add, Nat.reduceAdd] at fx; clear hS; go_simp; first | done | with_reducible rfl)
           try simp only [Act.put, List.setIfInBounds_toArray, List.set_cons_zero, List.set_cons_succ]))
      refine wpSeq_nil (fun W hS => ?_)
      go_wp2
      go_ret
      exact ⟨congrArg (fun b => Ending.returned (.bool b)) HP.out.symm, hS.bel⟩
  · skip
    have g1 : ¬ (x.num.size : Int) ≤ 3 := by omega
    have HP := Lib.hid (show res = false from HR.out.trans <| decide_eq_false fun hs => h1 hs.1)
    refine wp_region_in hI (by kernel_rfl) (by kernel_rfl) ?_
    repeat (first
      | (refine wpSeq_off (by rfl) ?_; try simp only [Act.put, List.setIfInBounds_toArray, List.set_cons_zero, List.set_cons_succ])
      | (refine wpSeq_val (v := ?_) (by rfl) (fun W hS => ?_) ?_
         rotate_left
         · (have fx := hS.facts; simp only [factsOf, cellsOf, Nat.zero_add, Nat.reduceAdd] at fx; clear hS; go_simp; first | done | with_reducible rfl)
         try simp only [Act.put, List.setIfInBounds_toArray, List.set_cons_zero, List.set_cons_succ]))
    refine wpSeq_nil (fun W hS => ?_)
    go_wp2
    go_ret
    exact ⟨congrArg (fun b => Ending.returned (.bool b)) HP.out.symm, hS.bel⟩
/-- the loop of arm.small: those ahead of k are small -/
def SmRel (w : World) (l : List Q3) (i : Value) (wr : World) : Prop := ∃ k : Nat, k ≤ l.length ∧ i = .int .i64 k ∧ (∀ (j : Nat) (x : Q3), j < k → l[j]? = some x → SmallP x) ∧ In w [] wr
def AllSmall (l : List Q3) : Prop := ∀ x ∈ l, SmallP x
instance (l : List Q3) : Decidable (AllSmall l) := by unfold AllSmall; infer_instance
set_option maxRecDepth 100000 in
set_option maxHeartbeats 4000000 in
theorem smalls_any (w : World) (hT : TabW w) (v : Value) (l : List Q3) {N : Nat} (hv : SlQ w w.heap.size v l) (hl : ∀ x ∈ l, x.le N) (hN : N ≤ 8796093022208) (hlen : l.length ≤ 4611686018427387904) :
    Calls Tryd.prog 85 #[v] w fun r w' => r = .returned (.bool (decide (AllSmall l))) ∧ Below w.heap.size w w' := by
  have HT := Lib.hid hT
  obtain ⟨A, n, c, rfl, hln, hnc, hA, hrd⟩ := hv
  subst hln
  have HRD := Lib.hid hrd
  have hI := In.start w
  have hst := Lib.hid (show SmRel w l (.int .i64 0) w from ⟨0, Nat.zero_le _, rfl, fun j x hj => absurd hj (Nat.not_lt_zero j), hI⟩)
  obtain ⟨res, hres⟩ : ∃ res, res = decide (AllSmall l) := ⟨_, rfl⟩
  rw [← hres]
  have HR := Lib.hid hres
  clear hrd hT hI hres
  go_enter Tryd.func85, Tryd.ntmps85
  go_wp2_with fail
  go_loopw [7] (fun i wr => SmRel w l i wr) (fun i _ => l.length - (intOf i).toNat)
  case atStart => exact hst.out
  case round =>
    clear hst
    obtain ⟨k, hk, rfl, hok, hI⟩ := hrel
    by_cases hkn : k < l.length
    · have hki : (k : Int) < (l.length : Int) := by omega
      have hki2 : 0 ≤ (k : Int) ∧ (k : Int) < (l.length : Int) := by omega
      obtain ⟨x, hx⟩ : ∃ x, l[k]? = some x := ⟨_, List.getElem?_eq_getElem hkn⟩
      obtain ⟨b, o, rfl, hbB, e0, e1, e2⟩ := Rd.quot HRD.out hx
      have d0 := (hI.bel.cell (p := ⟨b, o + k * 3, none⟩) hbB).trans e0
      have d1 := (hI.bel.cell (p := ⟨b, o + k * 3 + 1, none⟩) hbB).trans e1
      have d2 := (hI.bel.cell (p := ⟨b, o + k * 3 + 2, none⟩) hbB).trans e2
      have hbn : b < wr.heap.size := Nat.lt_of_lt_of_le hbB hI.bel.size
      have hwk : IntKind.i64.wrap ((k : Int) + 1) = (k : Int) + 1 := by rw [IntKind.wrap_i64]; omega
      have SR := smallR w HT.out x (hl x (List.mem_of_getElem? hx))
      have HX := Lib.hid hx
      have HOK := Lib.hid hok
      replace hI := hI.alloc 25 #[.bool x.neg, .string x.num, .string x.den]
      clear e0 e1 e2 hx hok
      go_upto_region 4 with (fail)
      clear d0 d1 d2 hbn
      generalize wr.heap.size = g at hI ⊢
      generalize World.alloc _ _ = W1 at hI ⊢
      have fx := hI.facts
      simp only [factsOf, cellsOf, Nat.zero_add, Nat.reduceAdd] at fx
      by_cases hs : SmallP x
      · have HR := Lib.hid (show ∀ W, In w [(g, 25, #[.bool x.neg, .string x.num, .string x.den])] W → SmRel w l (.int .i64 ((k : Int) + 1)) W from fun W hW => ⟨k + 1, hkn, by simp, fun j y hj hy => by
          rcases Nat.lt_or_ge j k with h | h
          · exact HOK.out j y h hy
          · rw [show j = k by omega, HX.out] at hy; cases hy; exact hs, hW.tail⟩)
        rw [decide_eq_true hs] at SR
        clear hs HOK
        go_wp2_with fail
        refine (SR.out _ hI.bel).mono ?_
        rintro e wn ⟨rfl, hb⟩
        replace hI := hI.call hb
        clear hb
        go_wp2_with fail
        go_roundw
        case rel => exact HR.out _ hI
        case measure => simp [intOf]; omega
      · have HP := Lib.hid (show res = false from HR.out.trans <| decide_eq_false fun h => hs (h x (List.mem_of_getElem? HX.out)))
        rw [decide_eq_false hs] at SR
        clear hs HOK
        go_wp2_with fail
        refine (SR.out _ hI.bel).mono ?_
        rintro e wn ⟨rfl, hb⟩
        replace hI := hI.call hb
        clear hb
        go_wp2
        go_ret
        exact ⟨congrArg (fun b => Ending.returned (.bool b)) HP.out.symm, hI.bel⟩
    · obtain rfl : k = l.length := by omega
      have hki : ¬ (l.length : Int) < (l.length : Int) := by omega
      have HP := Lib.hid (show res = true from HR.out.trans <| decide_eq_true fun x hx => by
        obtain ⟨j, hj, rfl⟩ := List.getElem_of_mem hx
        exact hok j _ hj (List.getElem?_eq_getElem hj))
      clear hok
      go_wp2
      go_ret
      exact ⟨congrArg (fun b => Ending.returned (.bool b)) HP.out.symm, hI.bel⟩
end Go.Proofs.YtnnbnecpcppkdaaDoor
namespace Go.Proofs.YtnnbnecpcppkdaaDoor
open Go.RowKit Go.Gy
set_option linter.unusedVariables false
theorem encK_length (k : Lk) : (encK k).length = 16 := rfl
/-- the sixteen cells of a link, from o on in block b -/
def LkC (w : World) (b o : Nat) (k : Lk) : Prop := w.cell? ⟨b, o, none⟩ = some (.bool k.len.neg) ∧ w.cell? ⟨b, o + 1, none⟩ = some (.string k.len.num) ∧ w.cell? ⟨b, o + 2, none⟩ = some (.string k.len.den) ∧ w.cell? ⟨b, o + 3, none⟩ = some (.bool k.low.neg) ∧ w.cell? ⟨b, o + 4, none⟩ = some (.string k.low.num) ∧ w.cell? ⟨b, o + 5, none⟩ = some (.string k.low.den) ∧ w.cell? ⟨b, o + 6, none⟩ = some (.bool k.high.neg) ∧ w.cell? ⟨b, o + 7, none⟩ = some (.string k.high.num) ∧ w.cell? ⟨b, o + 8, none⟩ = some (.string k.high.den) ∧ w.cell? ⟨b, o + 9, none⟩ = some (.bool k.speed.neg) ∧ w.cell? ⟨b, o + 10, none⟩ = some (.string k.speed.num) ∧ w.cell? ⟨b, o + 11, none⟩ = some (.string k.speed.den) ∧ w.cell? ⟨b, o + 12, none⟩ = some (.bool k.brake.neg) ∧ w.cell? ⟨b, o + 13, none⟩ = some (.string k.brake.num) ∧ w.cell? ⟨b, o + 14, none⟩ = some (.string k.brake.den) ∧ w.cell? ⟨b, o + 15, none⟩ = some (k.shape)
theorem LkC.below {w w' : World} {B b o : Nat} {k : Lk} (h : LkC w b o k) (hb : Below B w w') (hlt : b < B) : LkC w' b o k := by
  obtain ⟨e0, e1, e2, e3, e4, e5, e6, e7, e8, e9, e10, e11, e12, e13, e14, e15⟩ := h
  exact ⟨(hb.cell (p := ⟨b, o, none⟩) hlt).trans e0, (hb.cell (p := ⟨b, o + 1, none⟩) hlt).trans e1, (hb.cell (p := ⟨b, o + 2, none⟩) hlt).trans e2, (hb.cell (p := ⟨b, o + 3, none⟩) hlt).trans e3, (hb.cell (p := ⟨b, o + 4, none⟩) hlt).trans e4, (hb.cell (p := ⟨b, o + 5, none⟩) hlt).trans e5, (hb.cell (p := ⟨b, o + 6, none⟩) hlt).trans e6, (hb.cell (p := ⟨b, o + 7, none⟩) hlt).trans e7, (hb.cell (p := ⟨b, o + 8, none⟩) hlt).trans e8, (hb.cell (p := ⟨b, o + 9, none⟩) hlt).trans e9, (hb.cell (p := ⟨b, o + 10, none⟩) hlt).trans e10, (hb.cell (p := ⟨b, o + 11, none⟩) hlt).trans e11, (hb.cell (p := ⟨b, o + 12, none⟩) hlt).trans e12, (hb.cell (p := ⟨b, o + 13, none⟩) hlt).trans e13, (hb.cell (p := ⟨b, o + 14, none⟩) hlt).trans e14, (hb.cell (p := ⟨b, o + 15, none⟩) hlt).trans e15⟩
/-- a slice of links, read below block B -/
def SlL (w : World) (B : Nat) (v : Value) (r : List Lk) : Prop := ∃ A n c, v = .slice A n c ∧ r.length = n ∧ n ≤ c ∧ (A = none → c = 0) ∧ Rd w B 16 A n (r.flatMap encK)
theorem SlL.below {w w' : World} {B : Nat} {v : Value} {r : List Lk} (h : SlL w B v r) (hb : Below B w w') : SlL w' B v r := by
  obtain ⟨A, n, c, h1, h2, h3, h4, h5⟩ := h
  exact ⟨A, n, c, h1, h2, h3, h4, h5.below hb⟩
theorem SlL.more {w : World} {B B' : Nat} {v : Value} {r : List Lk} (h : SlL w B v r) (hB : B ≤ B') : SlL w B' v r := by
  obtain ⟨A, n, c, h1, h2, h3, h4, h5⟩ := h
  exact ⟨A, n, c, h1, h2, h3, h4, h5.more hB⟩
theorem SlL.own {w : World} {base n : Nat} {v : Value} {r : List Lk} (h : w.ownsRow base 28 16 v n (r.flatMap encK)) : SlL w w.heap.size v r := by
  have hl : r.length = n := by
    have := h.1
    rw [flat_length encK_length] at this
    omega
  obtain ⟨A, c, rfl, h1, _, h2⟩ := own_rd h
  exact ⟨A, n, c, rfl, hl, h1, fun hA => (own_none h hA).2, h2⟩
theorem Rd.lnk {w : World} {B n i : Nat} {A : Option Addr} {r : List Lk} (h : Rd w B 16 A n (r.flatMap encK)) {k : Lk} (hx : r[i]? = some k) : ∃ b o, A = some ⟨b, o, none⟩ ∧ b < B ∧ LkC w b (o + i * 16) k := by
  have hk : i < r.length := (List.getElem?_eq_some_iff.1 hx).1
  have hn : 0 < n := by have := h.1; rw [flat_length encK_length] at this; omega
  obtain ⟨b, o, hA, hb, hc⟩ := h.2 hn
  have key := fun j u (hu : (encK k)[j]? = some u) => hc _ u (flat_get r encK_length i k hx j u hu)
  refine ⟨b, o, hA, hb, ?_, ?_, ?_, ?_, ?_, ?_, ?_, ?_, ?_, ?_, ?_, ?_, ?_, ?_, ?_, ?_⟩
  · have := key 0 _ rfl; rwa [Nat.add_zero] at this
  · have := key 1 _ rfl; rwa [← Nat.add_assoc] at this
  · have := key 2 _ rfl; rwa [← Nat.add_assoc] at this
  · have := key 3 _ rfl; rwa [← Nat.add_assoc] at this
  · have := key 4 _ rfl; rwa [← Nat.add_assoc] at this
  · have := key 5 _ rfl; rwa [← Nat.add_assoc] at this
  · have := key 6 _ rfl; rwa [← Nat.add_assoc] at this
  · have := key 7 _ rfl; rwa [← Nat.add_assoc] at this
  · have := key 8 _ rfl; rwa [← Nat.add_assoc] at this
  · have := key 9 _ rfl; rwa [← Nat.add_assoc] at this
  · have := key 10 _ rfl; rwa [← Nat.add_assoc] at this
  · have := key 11 _ rfl; rwa [← Nat.add_assoc] at this
  · have := key 12 _ rfl; rwa [← Nat.add_assoc] at this
  · have := key 13 _ rfl; rwa [← Nat.add_assoc] at this
  · have := key 14 _ rfl; rwa [← Nat.add_assoc] at this
  · have := key 15 _ rfl; rwa [← Nat.add_assoc] at this
/-- an arm; its links with their shapes -/
structure Ar where
  name : ByteArray
  p : P2
  half : Bool
  t : Q3
  v : Value
  L : List (Lk × List P2)
def Ar.ks (a : Ar) : List Lk := a.L.map (·.1)
theorem Ar.ks_len (a : Ar) : a.ks.length = a.L.length := List.length_map _
theorem Ar.ks_get (a : Ar) (i : Nat) : a.ks[i]? = (a.L[i]?).map (·.1) := List.getElem?_map
def Ar.val (a : Ar) : Value := .agg #[.string a.name, .bool a.p.x.neg, .string a.p.x.num, .string a.p.x.den, .bool a.p.y.neg, .string a.p.y.num, .string a.p.y.den, .bool a.half, .bool a.t.neg, .string a.t.num, .string a.t.den, a.v]
/-- where it lies -/
def Ar.At (a : Ar) (w : World) (B : Nat) : Prop := SlL w B a.v a.ks ∧ ∀ x ∈ a.L, SlP w B x.1.shape x.2
def Ar.le (a : Ar) (N : Nat) : Prop := a.p.le N ∧ a.t.le N ∧ a.name.size ≤ N ∧ ∀ x ∈ a.L, x.1.le N ∧ (∀ y ∈ x.2, y.le N) ∧ x.2.length ≤ N
theorem Ar.le.more {a : Ar} {N M : Nat} (h : a.le N) (hM : N ≤ M) : a.le M := ⟨h.1.more hM, h.2.1.more hM, Nat.le_trans h.2.2.1 hM, fun x hx => ⟨(h.2.2.2 x hx).1.more hM, fun y hy => ((h.2.2.2 x hx).2.1 y hy).more hM, Nat.le_trans (h.2.2.2 x hx).2.2 hM⟩⟩
theorem Ar.At.below {a : Ar} {w w' : World} {B : Nat} (h : a.At w B) (hb : Below B w w') : a.At w' B := ⟨h.1.below hb, fun x hx => (h.2 x hx).below hb⟩
theorem Ar.At.more {a : Ar} {w : World} {B B' : Nat} (h : a.At w B) (hB : B ≤ B') : a.At w B' := ⟨h.1.more hB, fun x hx => (h.2 x hx).more hB⟩
theorem Ar.At.up {a : Ar} {w w' : World} (h : a.At w w.heap.size) (hb : Below w.heap.size w w') : a.At w' w'.heap.size := (h.below hb).more hb.size
/-- what arm.check says of a link -/
def LinkGood (k : Lk) : Prop := AllSmall [k.len, k.low, k.high, k.speed, k.brake] ∧ 0 < k.len.q ∧ k.low.q < k.high.q ∧ 0 < k.speed.q ∧ 0 < k.brake.q
def PtsSmall (l : List P2) : Prop := ∀ p ∈ l, AllSmall [p.x, p.y]
def LinkE (k : Lk) (l : List P2) (e : Int) : Prop :=
  (¬ LinkGood k ∧ e = 1) ∨ (LinkGood k ∧ ∃ c, CheckIs l 8 c ∧ ((c ≠ 0 ∧ e = c) ∨ (c = 0 ∧ ¬ PtsSmall l ∧ e = 1) ∨ (c = 0 ∧ PtsSmall l ∧ e = 0)))
theorem LinkE.uniq {k : Lk} {l : List P2} {e e' : Int} (h : LinkE k l e) (h' : LinkE k l e') : e = e' := by
  rcases h with ⟨h1, h2⟩ | ⟨h1, c, h2, h3⟩
  · rcases h' with ⟨g1, g2⟩ | ⟨g1, _⟩
    · omega
    · exact absurd g1 h1
  · rcases h' with ⟨g1, g2⟩ | ⟨g1, c', g2, g3⟩
    · exact absurd h1 g1
    · obtain rfl := h2.uniq g2
      rcases h3 with ⟨a1, a2⟩ | ⟨a1, a2, a3⟩ | ⟨a1, a2, a3⟩
      all_goals
        rcases g3 with ⟨b1, b2⟩ | ⟨b1, b2, b3⟩ | ⟨b1, b2, b3⟩
        all_goals first | omega | (exact absurd ‹PtsSmall l› ‹¬ PtsSmall l›)
theorem LinkE.zero {k : Lk} {l : List P2} {e : Int} (h : LinkE k l e) (he : e = 0) : LinkGood k ∧ CheckIs l 8 0 ∧ PtsSmall l := by
  rcases h with ⟨h1, h2⟩ | ⟨h1, c, h2, ⟨h3, h4⟩ | ⟨h3, h4, h5⟩ | ⟨h3, h4, h5⟩⟩
  · omega
  · omega
  · omega
  · subst h3; exact ⟨h1, h2, h4⟩
theorem CheckIs.ok8 {l : List P2} (h : CheckIs l 8 0) : 3 ≤ l.length ∧ l.length ≤ 8 ∧ Conv l := by
  rcases h with ⟨h1, h2⟩ | ⟨h1, h2, h3⟩ | ⟨h1, h2, h3, h4⟩ | ⟨h1, h2, h3, h4⟩
  · omega
  · omega
  · omega
  · exact ⟨h2, by omega, h3⟩
theorem CheckIs.total (l : List P2) (most : Int) : ∃ e, CheckIs l most e := by
  by_cases h1 : (l.length : Int) > most
  · exact ⟨2, .inl ⟨h1, rfl⟩⟩
  · by_cases h2 : l.length < 3
    · exact ⟨3, .inr (.inl ⟨h1, h2, rfl⟩)⟩
    · by_cases h3 : Conv l
      · exact ⟨0, .inr (.inr (.inr ⟨h1, by omega, h3, rfl⟩))⟩
      · exact ⟨3, .inr (.inr (.inl ⟨h1, by omega, h3, rfl⟩))⟩
theorem LinkE.total (k : Lk) (l : List P2) : ∃ e, LinkE k l e := by
  by_cases h1 : LinkGood k
  · obtain ⟨c, hc⟩ := CheckIs.total l 8
    by_cases h2 : c = 0
    · by_cases h3 : PtsSmall l
      · exact ⟨0, .inr ⟨h1, c, hc, .inr (.inr ⟨h2, h3, rfl⟩)⟩⟩
      · exact ⟨1, .inr ⟨h1, c, hc, .inr (.inl ⟨h2, h3, rfl⟩)⟩⟩
    · exact ⟨c, .inr ⟨h1, c, hc, .inl ⟨h2, rfl⟩⟩⟩
  · exact ⟨1, .inl ⟨h1, rfl⟩⟩
end Go.Proofs.YtnnbnecpcppkdaaDoor
namespace Go.Proofs.YtnnbnecpcppkdaaDoor
open Go.RowKit Go.Gy
set_option linter.unusedVariables false
theorem polyCheck_any (w : World) (hT : TabW w) (v : Value) (l : List P2) {N : Nat} (hv : SlP w w.heap.size v l) (hl : ∀ x ∈ l, x.le N) (hN : 1 ≤ N ∧ N ≤ 68719476736) :
    Calls Tryd.prog 119 #[v] w fun r w' => ∃ e, r = .returned (.int .i64 e) ∧ CheckIs l 8 e ∧ Below w.heap.size w w' := by
  have HC := Lib.hid (check_at w hT v l hv hl hN 8 (by decide))
  clear hv hl hT
  go_enter Tryd.func119, Tryd.ntmps119
  go_wp2_with fail
  refine HC.out.mono ?_
  rintro r w' ⟨e, rfl, hc, hb⟩
  have HR := Lib.hid (And.intro hc hb)
  clear hc hb HC
  go_wp2
  go_ret
  exact ⟨e, rfl, HR.out⟩
/-- the loop over the corners -/
def LcRel (w : World) (ls : List (Nat × TypeId × Array Value)) (l : List P2) (i : Value) (wr : World) : Prop := ∃ k : Nat, k ≤ l.length ∧ i = .int .i64 k ∧ (∀ (j : Nat) (p : P2), j < k → l[j]? = some p → AllSmall [p.x, p.y]) ∧ In w ls wr
set_option maxRecDepth 100000 in
set_option maxHeartbeats 8000000 in
theorem linkCheck_any (w : World) (hT : TabW w) (k : Lk) (l : List P2) {N : Nat} (hk : k.le N) (hs : SlP w w.heap.size k.shape l) (hl : ∀ x ∈ l, x.le N) (hN : 1 ≤ N ∧ N ≤ 68719476736) :
    Calls Tryd.prog 86 #[.agg #[.bool k.len.neg, .string k.len.num, .string k.len.den, .bool k.low.neg, .string k.low.num, .string k.low.den, .bool k.high.neg, .string k.high.num, .string k.high.den, .bool k.speed.neg, .string k.speed.num, .string k.speed.den, .bool k.brake.neg, .string k.brake.num, .string k.brake.den, k.shape]] w fun r w' => ∃ e, r = .returned (.int .i64 e) ∧ LinkE k l e ∧ Below w.heap.size w w' := by
  have HT := Lib.hid hT
  obtain ⟨klen, klow, khigh, kspeed, kbrake, kshape⟩ := k
  obtain ⟨A, n, c, hsh, hln, hnc, hA, hrd⟩ := id hs
  obtain rfl : kshape = .slice A n c := hsh
  subst hln
  have HS := Lib.hid hs
  have HRD := Lib.hid hrd
  obtain ⟨l1, l2, l3, l4, l5⟩ := hk
  have l1 : klen.le N := l1
  have l2 : klow.le N := l2
  have l3 : khigh.le N := l3
  have l4 : kspeed.le N := l4
  have l5 : kbrake.le N := l5
  have HL := Lib.hid hl
  have HSM := Lib.hid (fun W (hW : Below w.heap.size w W) v (hv : SlQ W W.heap.size v [klen, klow, khigh, kspeed, kbrake]) => smalls_any W (tabs w HT.out hW) v [klen, klow, khigh, kspeed, kbrake] (N := N) hv (by
    intro x hx
    simp only [List.mem_cons, List.not_mem_nil, or_false] at hx
    rcases hx with rfl | rfl | rfl | rfl | rfl <;> assumption) (by omega) (by simp))
  have HPC := Lib.hid (fun W (hW : Below w.heap.size w W) => polyCheck_any W (tabs w HT.out hW) (.slice A l.length c) l ((HS.out.below hW).more hW.size) HL.out hN)
  obtain ⟨c1, _, p1, _, C1⟩ := signR w hT klen l1
  obtain ⟨c2, _, _, p2, C2⟩ := cmpR w hT klow khigh l2 l3
  obtain ⟨c3, _, p3, _, C3⟩ := signR w hT kspeed l4
  obtain ⟨c4, _, p4, _, C4⟩ := signR w hT kbrake l5
  obtain ⟨lk, hlk⟩ : ∃ lk : Lk, lk = ⟨klen, klow, khigh, kspeed, kbrake, .slice A l.length c⟩ := ⟨_, rfl⟩
  have HG := Lib.hid (show LinkGood lk ↔ (AllSmall [klen, klow, khigh, kspeed, kbrake] ∧ ¬ c1 ≤ 0 ∧ ¬ c2 ≥ 0 ∧ ¬ c3 ≤ 0 ∧ ¬ c4 ≤ 0) by
    subst hlk
    unfold LinkGood
    simp only
    rw [← p1, ← p2, ← p3, ← p4]
    constructor
    · rintro ⟨a, b, c, d, e⟩; exact ⟨a, by omega, by omega, by omega, by omega⟩
    · rintro ⟨a, b, c, d, e⟩; exact ⟨a, by omega, by omega, by omega, by omega⟩)
  change Calls Tryd.prog 86 #[.agg #[.bool klen.neg, .string klen.num, .string klen.den, .bool klow.neg, .string klow.num, .string klow.den, .bool khigh.neg, .string khigh.num, .string khigh.den, .bool kspeed.neg, .string kspeed.num, .string kspeed.den, .bool kbrake.neg, .string kbrake.num, .string kbrake.den, .slice A l.length c]] w fun r w' => ∃ e, r = .returned (.int .i64 e) ∧ LinkE ⟨klen, klow, khigh, kspeed, kbrake, .slice A l.length c⟩ l e ∧ Below w.heap.size w w'
  rw [← hlk]
  have HE1 := Lib.hid (show ¬ LinkGood lk → LinkE lk l 1 from fun h => .inl ⟨h, rfl⟩)
  have HE2 := Lib.hid (show LinkGood lk → ∀ c, CheckIs l 8 c → c ≠ 0 → LinkE lk l c from fun h c hc h0 => .inr ⟨h, c, hc, .inl ⟨h0, rfl⟩⟩)
  have HE3 := Lib.hid (show LinkGood lk → CheckIs l 8 0 → ¬ PtsSmall l → LinkE lk l 1 from fun h hc h0 => .inr ⟨h, 0, hc, .inr (.inl ⟨rfl, h0, rfl⟩)⟩)
  have HE4 := Lib.hid (show LinkGood lk → CheckIs l 8 0 → PtsSmall l → LinkE lk l 0 from fun h hc h0 => .inr ⟨h, 0, hc, .inr (.inr ⟨rfl, h0, rfl⟩)⟩)
  have hI := (In.start w).alloc 28 #[.bool klen.neg, .string klen.num, .string klen.den, .bool klow.neg, .string klow.num, .string klow.den, .bool khigh.neg, .string khigh.num, .string khigh.den, .bool kspeed.neg, .string kspeed.num, .string kspeed.den, .bool kbrake.neg, .string kbrake.num, .string kbrake.den, .slice A l.length c]
  obtain ⟨g, hg⟩ : ∃ g, g = w.heap.size := ⟨_, rfl⟩
  rw [← hg] at hI
  clear hrd hs hl hT p1 p2 p3 p4 l1 l2 l3 l4 l5 hlk
  go_enter Tryd.func86, Tryd.ntmps86
  go_upto_region 1 with (fail)
  rw [← hg]
  generalize World.alloc _ _ = W1 at hI ⊢
  clear hg
  have fx := hI.facts
  simp only [factsOf, cellsOf, Nat.zero_add, Nat.reduceAdd] at fx
  go_wp2_with fail
  have hJ := hI.alloc 25 #[.bool klen.neg, .string klen.num, .string klen.den, .bool klow.neg, .string klow.num, .string klow.den, .bool khigh.neg, .string khigh.num, .string khigh.den, .bool kspeed.neg, .string kspeed.num, .string kspeed.den, .bool kbrake.neg, .string kbrake.num, .string kbrake.den]
  have HQ := Lib.hid (HSM.out _ hJ.bel _ (hJ.slq (k := 0) rfl [klen, klow, khigh, kspeed, kbrake] rfl))
  by_cases hsm : AllSmall [klen, klow, khigh, kspeed, kbrake]
  · rw [decide_eq_true hsm] at HQ
    have Hsm := Lib.hid hsm
    clear hsm
    refine HQ.out.mono ?_
    rintro e wn ⟨rfl, hb⟩
    replace hI := (hJ.call hb).tail
    clear hb fx hJ HQ
    have fx := hI.facts
    simp only [factsOf, cellsOf, Nat.zero_add, Nat.reduceAdd] at fx
    by_cases h1 : c1 ≤ 0
    · go_wp2_with fail
      refine (C1.out _ hI.bel).mono ?_
      rintro e wn ⟨rfl, hb⟩
      replace hI := hI.call hb
      clear hb fx
      have fx := hI.facts
      simp only [factsOf, cellsOf, Nat.zero_add, Nat.reduceAdd] at fx
      have HP := Lib.hid (HE1.out (fun h => by obtain ⟨_, a2, a3, a4, a5⟩ := HG.out.mp h; omega))
      go_wp2
      go_ret
      exact ⟨1, rfl, HP.out, hI.bel⟩
    · go_wp2_with fail
      refine (C1.out _ hI.bel).mono ?_
      rintro e wn ⟨rfl, hb⟩
      replace hI := hI.call hb
      clear hb fx
      have fx := hI.facts
      simp only [factsOf, cellsOf, Nat.zero_add, Nat.reduceAdd] at fx
      by_cases h2 : c2 ≥ 0
      · go_wp2_with fail
        refine (C2.out _ hI.bel).mono ?_
        rintro e wn ⟨rfl, hb⟩
        replace hI := hI.call hb
        clear hb fx
        have fx := hI.facts
        simp only [factsOf, cellsOf, Nat.zero_add, Nat.reduceAdd] at fx
        have HP := Lib.hid (HE1.out (fun h => by obtain ⟨_, a2, a3, a4, a5⟩ := HG.out.mp h; omega))
        go_wp2
        go_ret
        exact ⟨1, rfl, HP.out, hI.bel⟩
      · go_wp2_with fail
        refine (C2.out _ hI.bel).mono ?_
        rintro e wn ⟨rfl, hb⟩
        replace hI := hI.call hb
        clear hb fx
        have fx := hI.facts
        simp only [factsOf, cellsOf, Nat.zero_add, Nat.reduceAdd] at fx
        by_cases h3 : c3 ≤ 0
        · go_wp2_with fail
          refine (C3.out _ hI.bel).mono ?_
          rintro e wn ⟨rfl, hb⟩
          replace hI := hI.call hb
          clear hb fx
          have fx := hI.facts
          simp only [factsOf, cellsOf, Nat.zero_add, Nat.reduceAdd] at fx
          have HP := Lib.hid (HE1.out (fun h => by obtain ⟨_, a2, a3, a4, a5⟩ := HG.out.mp h; omega))
          go_wp2
          go_ret
          exact ⟨1, rfl, HP.out, hI.bel⟩
        · go_wp2_with fail
          refine (C3.out _ hI.bel).mono ?_
          rintro e wn ⟨rfl, hb⟩
          replace hI := hI.call hb
          clear hb fx
          have fx := hI.facts
          simp only [factsOf, cellsOf, Nat.zero_add, Nat.reduceAdd] at fx
          by_cases h4 : c4 ≤ 0
          · go_wp2_with fail
            refine (C4.out _ hI.bel).mono ?_
            rintro e wn ⟨rfl, hb⟩
            replace hI := hI.call hb
            clear hb fx
            have fx := hI.facts
            simp only [factsOf, cellsOf, Nat.zero_add, Nat.reduceAdd] at fx
            have HP := Lib.hid (HE1.out (fun h => by obtain ⟨_, a2, a3, a4, a5⟩ := HG.out.mp h; omega))
            go_wp2
            go_ret
            exact ⟨1, rfl, HP.out, hI.bel⟩
          · go_wp2_with fail
            refine (C4.out _ hI.bel).mono ?_
            rintro e wn ⟨rfl, hb⟩
            replace hI := hI.call hb
            clear hb fx
            have fx := hI.facts
            simp only [factsOf, cellsOf, Nat.zero_add, Nat.reduceAdd] at fx
            have HGD := Lib.hid (HG.out.mpr ⟨Hsm.out, h1, h2, h3, h4⟩)
            clear C1 C2 C3 C4
            go_wp2_with fail
            refine (HPC.out _ hI.bel).mono ?_
            rintro e wn ⟨ce, rfl, hce, hb⟩
            replace hI := hI.call hb
            clear hb fx
            have fx := hI.facts
            simp only [factsOf, cellsOf, Nat.zero_add, Nat.reduceAdd] at fx
            by_cases h0 : ce = 0
            · subst h0
              have HC0 := Lib.hid hce
              clear hce
              have hl8 := HC0.out.ok8.2.1
              have hst := Lib.hid (show LcRel w [(g, 28, #[.bool klen.neg, .string klen.num, .string klen.den, .bool klow.neg, .string klow.num, .string klow.den, .bool khigh.neg, .string khigh.num, .string khigh.den, .bool kspeed.neg, .string kspeed.num, .string kspeed.den, .bool kbrake.neg, .string kbrake.num, .string kbrake.den, .slice A l.length c])] l (.int .i64 0) wn from ⟨0, Nat.zero_le _, rfl, fun j x hj => absurd hj (Nat.not_lt_zero j), hI⟩)
              clear hI
              go_wp2_with fail
              clear fx
              go_loopw [52] (fun i wr => LcRel w [(g, 28, #[.bool klen.neg, .string klen.num, .string klen.den, .bool klow.neg, .string klow.num, .string klow.den, .bool khigh.neg, .string khigh.num, .string khigh.den, .bool kspeed.neg, .string kspeed.num, .string kspeed.den, .bool kbrake.neg, .string kbrake.num, .string kbrake.den, .slice A l.length c])] l i wr) (fun i _ => l.length - (intOf i).toNat)
              case atStart => exact hst.out
              case round =>
                clear hst
                obtain ⟨i, hi, rfl, hok, hI⟩ := hrel
                by_cases hin : i < l.length
                · have hi1 : (i : Int) < (l.length : Int) := by omega
                  have hi2 : 0 ≤ (i : Int) ∧ (i : Int) < (l.length : Int) := by omega
                  obtain ⟨a, ha⟩ : ∃ a, l[i]? = some a := ⟨_, List.getElem?_eq_getElem hin⟩
                  obtain ⟨b, o, rfl, hbB, e0, e1, e2, e3, e4, e5⟩ := Rd.pt HRD.out ha
                  have d0 := (hI.bel.cell (p := ⟨b, o + i * 6, none⟩) hbB).trans e0
                  have d1 := (hI.bel.cell (p := ⟨b, o + i * 6 + 1, none⟩) hbB).trans e1
                  have d2 := (hI.bel.cell (p := ⟨b, o + i * 6 + 2, none⟩) hbB).trans e2
                  have d3 := (hI.bel.cell (p := ⟨b, o + i * 6 + 3, none⟩) hbB).trans e3
                  have d4 := (hI.bel.cell (p := ⟨b, o + i * 6 + 4, none⟩) hbB).trans e4
                  have d5 := (hI.bel.cell (p := ⟨b, o + i * 6 + 5, none⟩) hbB).trans e5
                  have hbn : b < wr.heap.size := Nat.lt_of_lt_of_le hbB hI.bel.size
                  have HOK := Lib.hid hok
                  have HAI := Lib.hid ha
                  have HAL := Lib.hid (HL.out a (List.mem_of_getElem? ha))
                  have hwi : IntKind.i64.wrap ((i : Int) + 1) = (i : Int) + 1 := by rw [IntKind.wrap_i64]; omega
                  have HSM2 := Lib.hid (fun W (hW : Below w.heap.size w W) v (hv : SlQ W W.heap.size v [a.x, a.y]) => smalls_any W (tabs w HT.out hW) v [a.x, a.y] (N := N) hv (by
                    intro x hx
                    simp only [List.mem_cons, List.not_mem_nil, or_false] at hx
                    rcases hx with rfl | rfl
                    · exact HAL.out.1
                    · exact HAL.out.2) (by omega) (by simp))
                  replace hI := hI.alloc 30 #[.bool a.x.neg, .string a.x.num, .string a.x.den, .bool a.y.neg, .string a.y.num, .string a.y.den]
                  clear e0 e1 e2 e3 e4 e5 ha hok
                  go_upto_region 11 with (fail)
                  clear d0 d1 d2 d3 d4 d5 hbn
                  generalize wr.heap.size = g2 at hI ⊢
                  generalize World.alloc _ _ = W2 at hI ⊢
                  have fx := hI.facts
                  simp only [factsOf, cellsOf, Nat.zero_add, Nat.reduceAdd] at fx
                  go_wp2_with fail
                  have hJ := hI.alloc 25 #[.bool a.x.neg, .string a.x.num, .string a.x.den, .bool a.y.neg, .string a.y.num, .string a.y.den]
                  have HQ2 := Lib.hid (HSM2.out _ hJ.bel _ (hJ.slq (k := 0) rfl [a.x, a.y] rfl))
                  by_cases hps : AllSmall [a.x, a.y]
                  · rw [decide_eq_true hps] at HQ2
                    have HRR := Lib.hid (show ∀ W, In w _ W → LcRel w [(g, 28, #[.bool klen.neg, .string klen.num, .string klen.den, .bool klow.neg, .string klow.num, .string klow.den, .bool khigh.neg, .string khigh.num, .string khigh.den, .bool kspeed.neg, .string kspeed.num, .string kspeed.den, .bool kbrake.neg, .string kbrake.num, .string kbrake.den, (.slice (some ⟨b, o, none⟩) l.length c)])] l (.int .i64 ((i : Int) + 1)) W from fun W hW => ⟨i + 1, hin, by simp, fun j y hj hy => by
                      rcases Nat.lt_or_ge j i with h | h
                      · exact HOK.out j y h hy
                      · rw [show j = i by omega, HAI.out] at hy; cases hy; exact hps, hW⟩)
                    clear hps
                    refine HQ2.out.mono ?_
                    rintro e wn ⟨rfl, hb⟩
                    replace hI := (hJ.call hb).tail
                    clear hb fx hJ HQ2
                    have HX := Lib.hid (HRR.out _ hI.tail)
                    go_wp2_with fail
                    go_roundw
                    case rel => exact HX.out
                    case measure => simp [intOf]; omega
                  · rw [decide_eq_false hps] at HQ2
                    have HP := Lib.hid (HE3.out HGD.out HC0.out (fun h => hps (h a (List.mem_of_getElem? HAI.out))))
                    clear hps
                    refine HQ2.out.mono ?_
                    rintro e wn ⟨rfl, hb⟩
                    replace hI := (hJ.call hb).tail
                    clear hb fx hJ HQ2
                    go_wp2
                    go_ret
                    exact ⟨1, rfl, HP.out, hI.bel⟩
                · obtain rfl : i = l.length := by omega
                  have hi1 : ¬ (l.length : Int) < (l.length : Int) := by omega
                  have HP := Lib.hid (HE4.out HGD.out HC0.out (fun x hx => by
                    obtain ⟨j, hj, rfl⟩ := List.getElem_of_mem hx
                    exact hok j _ hj (List.getElem?_eq_getElem hj)))
                  clear hok
                  go_wp2
                  go_ret
                  exact ⟨0, rfl, HP.out, hI.bel⟩
            · have h01 : (ce == 0) = false := by simpa using h0
              have h02 : (ce != 0) = true := by simpa using h0
              have HP := Lib.hid (HE2.out HGD.out ce hce h0)
              clear hce
              go_wp2
              go_ret
              exact ⟨ce, rfl, HP.out, hI.bel⟩
  · rw [decide_eq_false hsm] at HQ
    have HP := Lib.hid (HE1.out (fun h => hsm (HG.out.mp h).1))
    clear hsm
    refine HQ.out.mono ?_
    rintro e wn ⟨rfl, hb⟩
    replace hI := (hJ.call hb).tail
    clear hb fx hJ HQ
    go_wp2
    go_ret
    exact ⟨1, rfl, HP.out, hI.bel⟩
end Go.Proofs.YtnnbnecpcppkdaaDoor
namespace Go.Proofs.YtnnbnecpcppkdaaDoor
open Go.RowKit Go.Gy
set_option linter.unusedVariables false
def LetterP (s : ByteArray) (i : Nat) : Prop := ∀ h : i < s.size, 97 ≤ s[i].toNat ∧ s[i].toNat ≤ 122
def NameP (s : ByteArray) : Prop := (∀ i, LetterP s i) ∧ 1 ≤ s.size ∧ s.size ≤ 12
def NamePost (s : ByteArray) (w : World) (e : Ending) (w' : World) : Prop := ∃ b : Bool, e = .returned (.bool b) ∧ (b = true ↔ NameP s) ∧ w = w'
set_option maxRecDepth 100000 in
set_option maxHeartbeats 1000000 in
theorem isname_any (w : World) (s : ByteArray) (hs : s.size ≤ 140737488355328) :
    Calls Tryd.prog 84 #[.string s] w (NamePost s w) := by
  have HF := Lib.hid (show ∀ k, k < s.size → ¬ (97 ≤ s[k]!.toNat ∧ s[k]!.toNat ≤ 122) → ¬ NameP s from fun k hk h hn => h (by
    have := hn.1 k hk
    rwa [getElem!_pos s k hk]))
  have HZ := Lib.hid (show (∀ j, j < s.size → LetterP s j) → (NameP s ↔ (1 ≤ s.size ∧ s.size ≤ 12)) from fun h => ⟨fun h2 => h2.2, fun h2 => ⟨fun i hi => h i hi hi, h2⟩⟩)
  go_enter Tryd.func84, Tryd.ntmps84
  go_wp2
  go_loop [6] (fun i => ∃ k : Nat, k ≤ s.size ∧ i = .int .i64 k ∧ Hid (∀ j, j < k → LetterP s j)) (fun i => s.size - (intOf i).toNat)
  case atStart => exact ⟨0, Nat.zero_le _, rfl, Lib.hid (fun j hj => absurd hj (Nat.not_lt_zero j))⟩
  case round =>
    obtain ⟨k, hk, rfl, Hm⟩ := hrel
    by_cases hlt : k < s.size
    · have HFk := Lib.hid (HF.out k hlt)
      rw [getElem!_pos s k hlt] at HFk
      by_cases h1 : s[k].toNat < 97
      · have g1 : (s[k].toNat : Int) < 97 := by omega
        have HP := Lib.hid (HFk.out (by omega))
        clear HFk
        go_wp2
        go_ret
        exact ⟨false, rfl, ⟨fun h => Bool.noConfusion h, fun h => absurd h HP.out⟩, rfl⟩
      · have g1 : ¬ (s[k].toNat : Int) < 97 := by omega
        by_cases h2 : s[k].toNat > 122
        · have g2 : (s[k].toNat : Int) > 122 := by omega
          have HP := Lib.hid (HFk.out (by omega))
          clear HFk
          go_wp2
          go_ret
          exact ⟨false, rfl, ⟨fun h => Bool.noConfusion h, fun h => absurd h HP.out⟩, rfl⟩
        · have g2 : ¬ (s[k].toNat : Int) > 122 := by omega
          have HN := Lib.hid (show ∀ j, j < k + 1 → LetterP s j from fun j hj hjs => by
            rcases Nat.lt_or_ge j k with h | h
            · exact Hm.out j h hjs
            · obtain rfl : j = k := by omega
              exact ⟨by omega, by omega⟩)
          clear HFk
          go_wp2
          go_round
          case rel => exact ⟨k + 1, by omega, by go_num, HN⟩
          case measure => simp [intOf]; omega
    · obtain rfl : k = s.size := by omega
      have HN := Lib.hid (HZ.out Hm.out)
      by_cases h1 : 1 ≤ s.size
      · have g1 : (s.size : Int) ≥ 1 := by omega
        by_cases h2 : s.size ≤ 12
        · have g2 : (s.size : Int) ≤ 12 := by omega
          go_wp2
          go_ret
          exact ⟨true, rfl, ⟨fun _ => HN.out.mpr ⟨h1, h2⟩, fun _ => rfl⟩, rfl⟩
        · have g2 : ¬ (s.size : Int) ≤ 12 := by omega
          go_wp2
          go_ret
          exact ⟨false, rfl, ⟨fun h => Bool.noConfusion h, fun h => absurd (HN.out.mp h).2 h2⟩, rfl⟩
      · have g1 : ¬ (s.size : Int) ≥ 1 := by omega
        go_wp2
        go_ret
        exact ⟨false, rfl, ⟨fun h => Bool.noConfusion h, fun h => absurd (HN.out.mp h).1 h1⟩, rfl⟩
def BaseGood (a : Ar) : Prop := AllSmall [a.p.x, a.p.y, a.t] ∧ ¬ (a.half = true ∧ a.t.q ≠ 0)
def LinksE : List (Lk × List P2) → Int → Prop
  | [], e => e = 0
  | x :: L, e => ∃ c, LinkE x.1 x.2 c ∧ ((c ≠ 0 ∧ e = c) ∨ (c = 0 ∧ LinksE L e))
theorem LinksE.uniq : ∀ {L : List (Lk × List P2)} {e e' : Int}, LinksE L e → LinksE L e' → e = e'
  | [], _, _, h, h' => Eq.trans h (Eq.symm h')
  | x :: L, _, _, ⟨c, h1, h2⟩, ⟨c', g1, g2⟩ => by
    obtain rfl := h1.uniq g1
    rcases h2 with ⟨a, b⟩ | ⟨a, b⟩
    · rcases g2 with ⟨a', b'⟩ | ⟨a', b'⟩
      · omega
      · omega
    · rcases g2 with ⟨a', b'⟩ | ⟨a', b'⟩
      · omega
      · exact b.uniq b'
theorem LinksE.total : ∀ L : List (Lk × List P2), ∃ e, LinksE L e
  | [] => ⟨0, rfl⟩
  | x :: L => by
    obtain ⟨c, hc⟩ := LinkE.total x.1 x.2
    by_cases h : c = 0
    · obtain ⟨e, he⟩ := LinksE.total L
      exact ⟨e, c, hc, .inr ⟨h, he⟩⟩
    · exact ⟨c, c, hc, .inl ⟨h, rfl⟩⟩
theorem LinksE.zero : ∀ {L : List (Lk × List P2)} {e : Int}, LinksE L e → e = 0 → ∀ x ∈ L, LinkE x.1 x.2 0
  | [], _, _, _ => fun x hx => by cases hx
  | y :: L, e, ⟨c, h1, h2⟩, he => fun x hx => by
    rcases h2 with ⟨a, b⟩ | ⟨a, b⟩
    · omega
    · subst a
      rcases List.mem_cons.1 hx with rfl | hx
      · exact h1
      · exact LinksE.zero b he x hx
theorem LinksE.ok : ∀ {L : List (Lk × List P2)}, (∀ x ∈ L, LinkE x.1 x.2 0) → LinksE L 0
  | [], _ => rfl
  | y :: L, h => ⟨0, h y List.mem_cons_self, .inr ⟨rfl, LinksE.ok fun x hx => h x (List.mem_cons_of_mem _ hx)⟩⟩
theorem LinksE.step {L : List (Lk × List P2)} {i : Nat} {x : Lk × List P2} (hx : L[i]? = some x) (hc : LinkE x.1 x.2 0) {e : Int} (h : LinksE (L.drop (i + 1)) e) : LinksE (L.drop i) e := by
  have hi := (List.getElem?_eq_some_iff.1 hx).1
  rw [List.drop_eq_getElem_cons hi, (List.getElem?_eq_some_iff.1 hx).2]
  exact ⟨0, hc, .inr ⟨rfl, h⟩⟩
theorem LinksE.stop {L : List (Lk × List P2)} {i : Nat} {x : Lk × List P2} (hx : L[i]? = some x) {e : Int} (hc : LinkE x.1 x.2 e) (he : e ≠ 0) : LinksE (L.drop i) e := by
  have hi := (List.getElem?_eq_some_iff.1 hx).1
  rw [List.drop_eq_getElem_cons hi, (List.getElem?_eq_some_iff.1 hx).2]
  exact ⟨e, hc, .inl ⟨he, rfl⟩⟩
/-- what arm.Check says of an arm -/
def ArmE (a : Ar) (e : Int) : Prop :=
  (¬ NameP a.name ∧ e = 3) ∨ (NameP a.name ∧ a.L.length > 3 ∧ e = 2) ∨ (NameP a.name ∧ a.L.length ≤ 3 ∧ (a.L.length = 0 ∨ ¬ BaseGood a) ∧ e = 1) ∨
  (NameP a.name ∧ a.L.length ≤ 3 ∧ a.L.length ≠ 0 ∧ BaseGood a ∧ LinksE a.L e)
theorem ArmE.uniq {a : Ar} {e e' : Int} (h : ArmE a e) (h' : ArmE a e') : e = e' := by
  rcases h with ⟨h1, h2⟩ | ⟨h1, h2, h3⟩ | ⟨h1, h2, h3, h4⟩ | ⟨h1, h2, h3, h4, h5⟩
  all_goals
    rcases h' with ⟨g1, g2⟩ | ⟨g1, g2, g3⟩ | ⟨g1, g2, g3, g4⟩ | ⟨g1, g2, g3, g4, g5⟩
    all_goals first | omega | (exact absurd ‹NameP a.name› ‹¬ NameP a.name›) | (exact h5.uniq g5) | (rcases h3 with h3 | h3; exact absurd h3 g3; exact absurd g4 h3) | (rcases g3 with g3 | g3; exact absurd g3 h3; exact absurd h4 g3)
theorem ArmE.total (a : Ar) : ∃ e, ArmE a e := by
  by_cases h1 : NameP a.name
  · by_cases h2 : a.L.length > 3
    · exact ⟨2, .inr (.inl ⟨h1, h2, rfl⟩)⟩
    · by_cases h3 : a.L.length = 0 ∨ ¬ BaseGood a
      · exact ⟨1, .inr (.inr (.inl ⟨h1, by omega, h3, rfl⟩))⟩
      · obtain ⟨e, he⟩ := LinksE.total a.L
        exact ⟨e, .inr (.inr (.inr ⟨h1, by omega, fun h => h3 (.inl h), Classical.byContradiction fun h => h3 (.inr h), he⟩))⟩
  · exact ⟨3, .inl ⟨h1, rfl⟩⟩
/-- an arm that arm.Check takes -/
theorem ArmE.zero {a : Ar} {e : Int} (h : ArmE a e) (he : e = 0) : 1 ≤ a.L.length ∧ a.L.length ≤ 3 ∧ ∀ x ∈ a.L, LinkGood x.1 := by
  rcases h with ⟨h1, h2⟩ | ⟨h1, h2, h3⟩ | ⟨h1, h2, h3, h4⟩ | ⟨h1, h2, h3, h4, h5⟩
  · omega
  · omega
  · omega
  · exact ⟨by omega, h2, fun x hx => ((h5.zero he x hx).zero rfl).1⟩
end Go.Proofs.YtnnbnecpcppkdaaDoor
namespace Go.Proofs.YtnnbnecpcppkdaaDoor
open Go.RowKit Go.Gy
set_option linter.unusedVariables false
/-- the loop over the links -/
def AcRel (w : World) (ls : List (Nat × TypeId × Array Value)) (L : List (Lk × List P2)) (i : Value) (wr : World) : Prop := ∃ k : Nat, k ≤ L.length ∧ i = .int .i64 k ∧ (∀ e, LinksE (L.drop k) e → LinksE L e) ∧ In w ls wr
set_option maxRecDepth 100000 in
set_option maxHeartbeats 8000000 in
theorem armCheck_any (w : World) (hT : TabW w) (a : Ar) {N : Nat} (hA : a.At w w.heap.size) (hle : a.le N) (hN : 1 ≤ N ∧ N ≤ 68719476736) :
    Calls Tryd.prog 45 #[a.val] w fun r w' => ∃ e, r = .returned (.int .i64 e) ∧ ArmE a e ∧ Below w.heap.size w w' := by
  have HT := Lib.hid hT
  obtain ⟨nm, ⟨px, py⟩, hf, t, v, L⟩ := a
  obtain ⟨hsl, hshp⟩ := hA
  obtain ⟨A, n, c, hv, hln, hnc, hA0, hrd⟩ := hsl
  obtain rfl : v = .slice A n c := hv
  obtain rfl : L.length = n := (Ar.ks_len _).symm.trans hln
  have HRD := Lib.hid hrd
  have HSH := Lib.hid (show ∀ x ∈ L, SlP w w.heap.size x.1.shape x.2 from hshp)
  obtain ⟨⟨lx, ly⟩, lt, lnm, lL⟩ := hle
  have lx : px.le N := lx
  have ly : py.le N := ly
  have lt : t.le N := lt
  have HLL := Lib.hid (show ∀ x ∈ L, x.1.le N ∧ (∀ y ∈ x.2, y.le N) ∧ x.2.length ≤ N from lL)
  have lnm : nm.size ≤ N := lnm
  have HKS := Lib.hid (show ∀ i : Nat, (L.map (·.1))[i]? = (L[i]?).map (·.1) from fun i => List.getElem?_map)
  have HSM := Lib.hid (fun W (hW : Below w.heap.size w W) v (hv : SlQ W W.heap.size v [px, py, t]) => smalls_any W (tabs w HT.out hW) v [px, py, t] (N := N) hv (by
    intro x hx
    simp only [List.mem_cons, List.not_mem_nil, or_false] at hx
    rcases hx with rfl | rfl | rfl <;> assumption) (by omega) (by simp))
  obtain ⟨c1, _, p1, p2, C1⟩ := signR w hT t lt
  have HC0 := Lib.hid (show c1 = 0 ↔ t.q = 0 by
    constructor
    · intro h
      have h1 : ¬ 0 < t.q := fun h2 => by have := p1.mpr h2; omega
      have h2 : ¬ t.q < 0 := fun h2 => by have := p2.mpr h2; omega
      grind
    · intro h
      have h1 : ¬ 0 < c1 := fun h2 => by have := p1.mp h2; grind
      have h2 : ¬ c1 < 0 := fun h2 => by have := p2.mp h2; grind
      omega)
  obtain ⟨ar, har⟩ : ∃ ar : Ar, ar = ⟨nm, ⟨px, py⟩, hf, t, .slice A L.length c, L⟩ := ⟨_, rfl⟩
  have HE1 := Lib.hid (show ¬ NameP nm → ArmE ar 3 from fun h => by subst har; exact .inl ⟨h, rfl⟩)
  have HE2 := Lib.hid (show NameP nm → L.length > 3 → ArmE ar 2 from fun h h2 => by subst har; exact .inr (.inl ⟨h, h2, rfl⟩))
  have HE3 := Lib.hid (show NameP nm → L.length ≤ 3 → (L.length = 0 ∨ ¬ AllSmall [px, py, t] ∨ (hf = true ∧ t.q ≠ 0)) → ArmE ar 1 from fun h h2 h3 => by
    subst har
    refine .inr (.inr (.inl ⟨h, h2, ?_, rfl⟩))
    rcases h3 with h3 | h3 | h3
    · exact .inl h3
    · exact .inr fun h4 => h3 h4.1
    · exact .inr fun h4 => h4.2 h3)
  have HE4 := Lib.hid (show NameP nm → L.length ≤ 3 → L.length ≠ 0 → AllSmall [px, py, t] → ¬ (hf = true ∧ t.q ≠ 0) → ∀ e, LinksE L e → ArmE ar e from fun h h2 h3 h4 h5 e h6 => by
    subst har
    exact .inr (.inr (.inr ⟨h, h2, h3, ⟨h4, h5⟩, h6⟩)))
  have hval : ar.val = .agg #[.string nm, .bool px.neg, .string px.num, .string px.den, .bool py.neg, .string py.num, .string py.den, .bool hf, .bool t.neg, .string t.num, .string t.den, .slice A L.length c] := by rw [har]; rfl
  rw [← har, hval]
  have hI := (In.start w).alloc 37 #[.string nm, .bool px.neg, .string px.num, .string px.den, .bool py.neg, .string py.num, .string py.den, .bool hf, .bool t.neg, .string t.num, .string t.den, .slice A L.length c]
  obtain ⟨g, hg⟩ : ∃ g, g = w.heap.size := ⟨_, rfl⟩
  rw [← hg] at hI
  have hL48 : L.length ≤ L.length := Nat.le_refl _
  clear hrd hshp hT p1 p2 lx ly lt lL har hval hln
  go_enter Tryd.func45, Tryd.ntmps45
  go_upto_region 1 with (fail)
  rw [← hg]
  generalize World.alloc _ _ = W1 at hI ⊢
  clear hg
  have fx := hI.facts
  simp only [factsOf, cellsOf, Nat.zero_add, Nat.reduceAdd] at fx
  go_wp2_with fail
  refine (isname_any W1 nm (by omega)).mono ?_
  rintro e wn ⟨b, rfl, hb, rfl⟩
  cases b
  · have HP := Lib.hid (HE1.out (fun h => by have := hb.mpr h; cases this))
    clear hb
    go_wp2
    go_ret
    exact ⟨3, rfl, HP.out, hI.bel⟩
  · have HNM := Lib.hid (hb.mp rfl)
    clear hb
    by_cases h3 : L.length > 3
    · have HP := Lib.hid (HE2.out HNM.out h3)
      have h3i : (L.length : Int) > 3 := by omega
      go_wp2
      go_ret
      exact ⟨2, rfl, HP.out, hI.bel⟩
    · have h3i : ¬ (L.length : Int) > 3 := by omega
      have hJ := hI.alloc 34 #[.bool px.neg, .string px.num, .string px.den, .bool py.neg, .string py.num, .string py.den, .bool hf, .bool t.neg, .string t.num, .string t.den]
      go_upto_region 6 with (fail)
      generalize W1.heap.size = g2 at hJ ⊢
      clear hI fx
      generalize World.alloc _ _ = W2 at hJ ⊢
      have hI := hJ
      clear hJ
      have fx := hI.facts
      simp only [factsOf, cellsOf, Nat.zero_add, Nat.reduceAdd] at fx
      by_cases h0 : L.length = 0
      · have HP := Lib.hid (HE3.out HNM.out (by omega) (.inl h0))
        have h0i : ((L.length : Int) == 0) = true := by simp [h0]
        have h0j : (L.length : Int) = 0 := by omega
        clear h0
        go_wp2
        go_ret
        exact ⟨1, rfl, HP.out, hI.bel⟩
      · have h0i : ((L.length : Int) == 0) = false := by simpa using (fun h : (L.length : Int) = 0 => h0 (by omega))
        have h0j : ¬ (L.length : Int) = 0 := by omega
        have hne : ¬ L = [] := fun h => h0 (by rw [h]; rfl)
        go_wp2_with fail
        have hJ := hI.alloc 25 #[.bool px.neg, .string px.num, .string px.den, .bool py.neg, .string py.num, .string py.den, .bool t.neg, .string t.num, .string t.den]
        have HQ := Lib.hid (HSM.out _ hJ.bel _ (hJ.slq (k := 0) rfl [px, py, t] rfl))
        by_cases hsm : AllSmall [px, py, t]
        · rw [decide_eq_true hsm] at HQ
          have Hsm := Lib.hid hsm
          clear hsm
          refine HQ.out.mono ?_
          rintro e wn ⟨rfl, hb⟩
          replace hI := (hJ.call hb).tail
          clear hb fx hJ HQ
          have fx := hI.facts
          simp only [factsOf, cellsOf, Nat.zero_add, Nat.reduceAdd] at fx
          have h00 := h0
          clear h0
          cases hf
          · have HB := Lib.hid (show ¬ (false = true ∧ t.q ≠ 0) from fun h => by cases h.1)
            have hst := Lib.hid (show AcRel w [(g2, 34, #[.bool px.neg, .string px.num, .string px.den, .bool py.neg, .string py.num, .string py.den, .bool false, .bool t.neg, .string t.num, .string t.den]), (g, 37, #[.string nm, .bool px.neg, .string px.num, .string px.den, .bool py.neg, .string py.num, .string py.den, .bool false, .bool t.neg, .string t.num, .string t.den, .slice A L.length c])] L (.int .i64 0) wn from ⟨0, Nat.zero_le _, rfl, fun e he => by simpa using he, hI⟩)
            clear hI
            go_wp2_with fail
            clear fx
            go_loopw [50] (fun i wr => AcRel w [(g2, 34, #[.bool px.neg, .string px.num, .string px.den, .bool py.neg, .string py.num, .string py.den, .bool false, .bool t.neg, .string t.num, .string t.den]), (g, 37, #[.string nm, .bool px.neg, .string px.num, .string px.den, .bool py.neg, .string py.num, .string py.den, .bool false, .bool t.neg, .string t.num, .string t.den, .slice A L.length c])] L i wr) (fun i _ => L.length - (intOf i).toNat)
            case atStart => exact hst.out
            case round =>
              as_aux_lemma =>
                clear hst
                obtain ⟨i, hi, rfl, hok, hI⟩ := hrel
                by_cases hin : i < L.length
                · have hi1 : (i : Int) < (L.length : Int) := by omega
                  have hi2 : 0 ≤ (i : Int) ∧ (i : Int) < (L.length : Int) := by omega
                  obtain ⟨⟨⟨klen, klow, khigh, kspeed, kbrake, kshape⟩, pts⟩, ha⟩ : ∃ x, L[i]? = some x := ⟨_, List.getElem?_eq_getElem hin⟩
                  obtain ⟨A5, n5, c5, hk5, _⟩ := HSH.out _ (List.mem_of_getElem? ha)
                  obtain rfl : kshape = .slice A5 n5 c5 := hk5
                  obtain ⟨b, o, rfl, hbB, hlc⟩ := Rd.lnk HRD.out (i := i) (k := ⟨klen, klow, khigh, kspeed, kbrake, .slice A5 n5 c5⟩) (by
                    show (L.map (·.1))[i]? = _
                    rw [HKS.out, ha]; rfl)
                  obtain ⟨f0, f1, f2, f3, f4, f5, f6, f7, f8, f9, f10, f11, f12, f13, f14, f15⟩ := hlc.below hI.bel hbB
                  have hbn : b < wr.heap.size := Nat.lt_of_lt_of_le hbB hI.bel.size
                  have HOK := Lib.hid hok
                  have HAI := Lib.hid ha
                  have hmem := List.mem_of_getElem? ha
                  have HLC := Lib.hid (fun W (hW : Below w.heap.size w W) => linkCheck_any W (tabs w HT.out hW) ⟨klen, klow, khigh, kspeed, kbrake, .slice A5 n5 c5⟩ pts (N := N) (HLL.out _ hmem).1 (((HSH.out _ hmem).below hW).more hW.size) (HLL.out _ hmem).2.1 hN)
                  have hwi : IntKind.i64.wrap ((i : Int) + 1) = (i : Int) + 1 := by rw [IntKind.wrap_i64]; omega
                  replace hI := hI.alloc 28 #[.bool klen.neg, .string klen.num, .string klen.den, .bool klow.neg, .string klow.num, .string klow.den, .bool khigh.neg, .string khigh.num, .string khigh.den, .bool kspeed.neg, .string kspeed.num, .string kspeed.den, .bool kbrake.neg, .string kbrake.num, .string kbrake.den, .slice A5 n5 c5]
                  clear hlc ha hok hmem
                  go_upto_region 11 with (fail)
                  clear f0 f1 f2 f3 f4 f5 f6 f7 f8 f9 f10 f11 f12 f13 f14 f15 hbn
                  generalize wr.heap.size = g3 at hI ⊢
                  generalize World.alloc _ _ = W3 at hI ⊢
                  have fx := hI.facts
                  simp only [factsOf, cellsOf, Nat.zero_add, Nat.reduceAdd] at fx
                  go_wp2_with fail
                  refine (HLC.out _ hI.bel).mono ?_
                  rintro e wn ⟨ce, rfl, hce, hb⟩
                  replace hI := hI.call hb
                  clear hb fx HLC
                  by_cases h0 : ce = 0
                  · subst h0
                    have HRR := Lib.hid (show ∀ W, In w _ W → AcRel w [(g2, 34, #[.bool px.neg, .string px.num, .string px.den, .bool py.neg, .string py.num, .string py.den, .bool false, .bool t.neg, .string t.num, .string t.den]), (g, 37, #[.string nm, .bool px.neg, .string px.num, .string px.den, .bool py.neg, .string py.num, .string py.den, .bool false, .bool t.neg, .string t.num, .string t.den, .slice (some ⟨b, o, none⟩) L.length c])] L (.int .i64 ((i : Int) + 1)) W from fun W hW => ⟨i + 1, hin, by simp, fun e he => HOK.out e (LinksE.step HAI.out hce he), hW⟩)
                    clear hce
                    have HX := Lib.hid (HRR.out _ hI.tail)
                    go_wp2_with fail
                    go_roundw
                    case rel => exact HX.out
                    case measure => simp [intOf]; omega
                  · have h01 : (ce == 0) = false := by simpa using h0
                    have h02 : (ce != 0) = true := by simpa using h0
                    have HP := Lib.hid (HE4.out HNM.out (by omega) h00 Hsm.out HB.out ce (HOK.out ce (LinksE.stop HAI.out hce h0)))
                    clear hce
                    go_wp2
                    go_ret
                    exact ⟨ce, rfl, HP.out, hI.bel⟩
                · obtain rfl : i = L.length := by omega
                  have hi1 : ¬ (L.length : Int) < (L.length : Int) := by omega
                  have HP := Lib.hid (HE4.out HNM.out (by omega) h00 Hsm.out HB.out 0 (hok 0 (by rw [List.drop_length]; rfl)))
                  clear hok
                  go_wp2
                  go_ret
                  exact ⟨0, rfl, HP.out, hI.bel⟩
          · by_cases hc1 : c1 = 0
            · have HB := Lib.hid (show ¬ (true = true ∧ t.q ≠ 0) from fun h => h.2 (HC0.out.mp hc1))
              subst hc1
              go_wp2_with fail
              refine (C1.out _ hI.bel).mono ?_
              rintro e wn ⟨rfl, hb⟩
              replace hI := hI.call hb
              clear hb fx
              have fx := hI.facts
              simp only [factsOf, cellsOf, Nat.zero_add, Nat.reduceAdd] at fx
              have hst := Lib.hid (show AcRel w [(g2, 34, #[.bool px.neg, .string px.num, .string px.den, .bool py.neg, .string py.num, .string py.den, .bool true, .bool t.neg, .string t.num, .string t.den]), (g, 37, #[.string nm, .bool px.neg, .string px.num, .string px.den, .bool py.neg, .string py.num, .string py.den, .bool true, .bool t.neg, .string t.num, .string t.den, .slice A L.length c])] L (.int .i64 0) wn from ⟨0, Nat.zero_le _, rfl, fun e he => by simpa using he, hI⟩)
              clear hI
              go_wp2_with fail
              clear fx
              go_loopw [50] (fun i wr => AcRel w [(g2, 34, #[.bool px.neg, .string px.num, .string px.den, .bool py.neg, .string py.num, .string py.den, .bool true, .bool t.neg, .string t.num, .string t.den]), (g, 37, #[.string nm, .bool px.neg, .string px.num, .string px.den, .bool py.neg, .string py.num, .string py.den, .bool true, .bool t.neg, .string t.num, .string t.den, .slice A L.length c])] L i wr) (fun i _ => L.length - (intOf i).toNat)
              case atStart => exact hst.out
              case round =>
                as_aux_lemma =>
                  clear hst
                  obtain ⟨i, hi, rfl, hok, hI⟩ := hrel
                  by_cases hin : i < L.length
                  · have hi1 : (i : Int) < (L.length : Int) := by omega
                    have hi2 : 0 ≤ (i : Int) ∧ (i : Int) < (L.length : Int) := by omega
                    obtain ⟨⟨⟨klen, klow, khigh, kspeed, kbrake, kshape⟩, pts⟩, ha⟩ : ∃ x, L[i]? = some x := ⟨_, List.getElem?_eq_getElem hin⟩
                    obtain ⟨A5, n5, c5, hk5, _⟩ := HSH.out _ (List.mem_of_getElem? ha)
                    obtain rfl : kshape = .slice A5 n5 c5 := hk5
                    obtain ⟨b, o, rfl, hbB, hlc⟩ := Rd.lnk HRD.out (i := i) (k := ⟨klen, klow, khigh, kspeed, kbrake, .slice A5 n5 c5⟩) (by
                      show (L.map (·.1))[i]? = _
                      rw [HKS.out, ha]; rfl)
                    obtain ⟨f0, f1, f2, f3, f4, f5, f6, f7, f8, f9, f10, f11, f12, f13, f14, f15⟩ := hlc.below hI.bel hbB
                    have hbn : b < wr.heap.size := Nat.lt_of_lt_of_le hbB hI.bel.size
                    have HOK := Lib.hid hok
                    have HAI := Lib.hid ha
                    have hmem := List.mem_of_getElem? ha
                    have HLC := Lib.hid (fun W (hW : Below w.heap.size w W) => linkCheck_any W (tabs w HT.out hW) ⟨klen, klow, khigh, kspeed, kbrake, .slice A5 n5 c5⟩ pts (N := N) (HLL.out _ hmem).1 (((HSH.out _ hmem).below hW).more hW.size) (HLL.out _ hmem).2.1 hN)
                    have hwi : IntKind.i64.wrap ((i : Int) + 1) = (i : Int) + 1 := by rw [IntKind.wrap_i64]; omega
                    replace hI := hI.alloc 28 #[.bool klen.neg, .string klen.num, .string klen.den, .bool klow.neg, .string klow.num, .string klow.den, .bool khigh.neg, .string khigh.num, .string khigh.den, .bool kspeed.neg, .string kspeed.num, .string kspeed.den, .bool kbrake.neg, .string kbrake.num, .string kbrake.den, .slice A5 n5 c5]
                    clear hlc ha hok hmem
                    go_upto_region 11 with (fail)
                    clear f0 f1 f2 f3 f4 f5 f6 f7 f8 f9 f10 f11 f12 f13 f14 f15 hbn
                    generalize wr.heap.size = g3 at hI ⊢
                    generalize World.alloc _ _ = W3 at hI ⊢
                    have fx := hI.facts
                    simp only [factsOf, cellsOf, Nat.zero_add, Nat.reduceAdd] at fx
                    go_wp2_with fail
                    refine (HLC.out _ hI.bel).mono ?_
                    rintro e wn ⟨ce, rfl, hce, hb⟩
                    replace hI := hI.call hb
                    clear hb fx HLC
                    by_cases h0 : ce = 0
                    · subst h0
                      have HRR := Lib.hid (show ∀ W, In w _ W → AcRel w [(g2, 34, #[.bool px.neg, .string px.num, .string px.den, .bool py.neg, .string py.num, .string py.den, .bool true, .bool t.neg, .string t.num, .string t.den]), (g, 37, #[.string nm, .bool px.neg, .string px.num, .string px.den, .bool py.neg, .string py.num, .string py.den, .bool true, .bool t.neg, .string t.num, .string t.den, .slice (some ⟨b, o, none⟩) L.length c])] L (.int .i64 ((i : Int) + 1)) W from fun W hW => ⟨i + 1, hin, by simp, fun e he => HOK.out e (LinksE.step HAI.out hce he), hW⟩)
                      clear hce
                      have HX := Lib.hid (HRR.out _ hI.tail)
                      go_wp2_with fail
                      go_roundw
                      case rel => exact HX.out
                      case measure => simp [intOf]; omega
                    · have h01 : (ce == 0) = false := by simpa using h0
                      have h02 : (ce != 0) = true := by simpa using h0
                      have HP := Lib.hid (HE4.out HNM.out (by omega) h00 Hsm.out HB.out ce (HOK.out ce (LinksE.stop HAI.out hce h0)))
                      clear hce
                      go_wp2
                      go_ret
                      exact ⟨ce, rfl, HP.out, hI.bel⟩
                  · obtain rfl : i = L.length := by omega
                    have hi1 : ¬ (L.length : Int) < (L.length : Int) := by omega
                    have HP := Lib.hid (HE4.out HNM.out (by omega) h00 Hsm.out HB.out 0 (hok 0 (by rw [List.drop_length]; rfl)))
                    clear hok
                    go_wp2
                    go_ret
                    exact ⟨0, rfl, HP.out, hI.bel⟩
            · have h01 : (c1 == 0) = false := by simpa using hc1
              have h02 : (c1 != 0) = true := by simpa using hc1
              have HP := Lib.hid (HE3.out HNM.out (by omega) (.inr (.inr ⟨rfl, fun h => hc1 (HC0.out.mpr h)⟩)))
              go_wp2_with fail
              refine (C1.out _ hI.bel).mono ?_
              rintro e wn ⟨rfl, hb⟩
              replace hI := hI.call hb
              clear hb fx
              have fx := hI.facts
              simp only [factsOf, cellsOf, Nat.zero_add, Nat.reduceAdd] at fx
              go_wp2
              go_ret
              exact ⟨1, rfl, HP.out, hI.bel⟩
        · rw [decide_eq_false hsm] at HQ
          have HP := Lib.hid (HE3.out HNM.out (by omega) (.inr (.inl hsm)))
          clear hsm
          refine HQ.out.mono ?_
          rintro e wn ⟨rfl, hb⟩
          replace hI := (hJ.call hb).tail
          clear hb fx hJ HQ
          go_wp2
          go_ret
          exact ⟨1, rfl, HP.out, hI.bel⟩
end Go.Proofs.YtnnbnecpcppkdaaDoor
