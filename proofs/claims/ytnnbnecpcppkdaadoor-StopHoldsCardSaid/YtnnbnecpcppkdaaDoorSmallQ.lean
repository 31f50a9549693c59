/- rat.Small, arm.small. Conditions: those typed. -/
import Derived.Test.YtnnbnecpcppkdaaDoorMakeQ
import Derived.Test.YtnnbnecpcppkdaaDoorKeep
namespace Go.Proofs.YtnnbnecpcppkdaaDoor
open Go.RowKit Go.Gy
set_option linter.unusedVariables false
def SmallP (x : Q3) : Prop := x.num.size ≤ 3 ∧ x.den.size ≤ 2 ∧ GoodR x.neg x.num x.den ∧ sval x.num ≤ 1000000 ∧ sval x.den ≤ 1000
instance (x : Q3) : Decidable (SmallP x) := by unfold SmallP; infer_instance
theorem cmpN_le {a n : Nat} (h : a ≤ n) : cmpN a (sval (natS n)) ≤ 0 := by
  rw [sval_natS]; unfold cmpN; split
  · decide
  · split
    · omega
    · decide
theorem cmpN_nle {a n : Nat} (h : ¬ a ≤ n) : ¬ cmpN a (sval (natS n)) ≤ 0 := by
  rw [sval_natS]; unfold cmpN; split
  · omega
  · split
    · decide
    · omega
set_option maxRecDepth 100000 in
set_option maxHeartbeats 4000000 in
theorem smallR (w : World) (hT : TabW w) (x : Q3) {N : Nat} (hx : x.le N) (hN : N ≤ 8796093022208 := by omega) :
    Hid (∀ W, Below w.heap.size w W → Calls Tryd.prog 118 #[.agg #[.bool x.neg, .string x.num, .string x.den]] W fun r w' => r = .returned (.bool (decide (SmallP x))) ∧ Below W.heap.size W w') := by
  refine Lib.hid fun W0 hW0 => ?_
  have hT0 := tabs w hT hW0
  have G1 := Lib.hid (fun W (hW : Below W0.heap.size W0 W) => good_any W x.neg x.num x.den (by have := hx.1; omega) (by have := hx.2; omega) (tabs W0 hT0 hW))
  have O1 := Lib.hid (fun W (hW : Below W0.heap.size W0 W) => of_any W 1000000 (by omega))
  have O2 := Lib.hid (fun W (hW : Below W0.heap.size W0 W) => of_any W 1000 (by omega))
  rw [show (1000000 : Int).toNat = 1000000 from rfl] at O1
  rw [show (1000 : Int).toNat = 1000 from rfl] at O2
  have hn1 : (natS 1000000).size ≤ 140737488355328 := by decide +kernel
  have hn2 : (natS 1000).size ≤ 140737488355328 := by decide +kernel
  have C1 := Lib.hid (fun W (hW : Below W0.heap.size W0 W) => (cmp_any W x.num (natS 1000000) (by have := hx.1; omega) hn1).mono fun e w' h => (⟨h.1, h.2 ▸ Below.refl _ _⟩ : e = .returned (.int .i64 (cmpN (sval x.num) (sval (natS 1000000)))) ∧ Below W.heap.size W w'))
  have C2 := Lib.hid (fun W (hW : Below W0.heap.size W0 W) => (cmp_any W x.den (natS 1000) (by have := hx.2; omega) hn2).mono fun e w' h => (⟨h.1, h.2 ▸ Below.refl _ _⟩ : e = .returned (.int .i64 (cmpN (sval x.den) (sval (natS 1000)))) ∧ Below W.heap.size W w'))
  have hI := (In.start W0).alloc 25 #[.bool x.neg, .string x.num, .string x.den]
  obtain ⟨res, hres⟩ : ∃ res, res = decide (SmallP x) := ⟨_, rfl⟩
  rw [← hres]
  have HR := Lib.hid hres
  clear hn1 hn2 hT hT0 hW0 hres
  go_enter Tryd.func118, Tryd.ntmps118
  go_upto_region 1 with (fail)
  generalize World.alloc _ _ = W1 at hI ⊢
  by_cases h1 : x.num.size ≤ 3
  · skip
    have g1 : (x.num.size : Int) ≤ 3 := by omega
    by_cases h2 : x.den.size ≤ 2
    · skip
      have g2 : (x.den.size : Int) ≤ 2 := by omega
      by_cases h3 : GoodR x.neg x.num x.den
      · skip
        by_cases h4 : sval x.num ≤ 1000000
        · skip
          have g4 := cmpN_le h4
          by_cases h5 : sval x.den ≤ 1000
          · skip
            have g5 := cmpN_le h5
            have HP := Lib.hid (show res = true from HR.out.trans <| decide_eq_true ⟨h1, h2, h3, h4, h5⟩)
            rw [decide_eq_true h3] at G1
            refine wp_region_in hI (by kernel_rfl) (by kernel_rfl) ?_
            repeat (first
              | (refine wpSeq_off (by rfl) ?_; try simp only [Act.put, List.setIfInBounds_toArray, List.set_cons_zero, List.set_cons_succ])
              | (refine wpSeq_val (v := ?_) (by rfl) (fun W hS => ?_) ?_
                 rotate_left
                 · (have fx := hS.facts; simp only [factsOf, cellsOf, Nat.zero_add, Nat.reduceAdd] at fx; clear hS; go_simp; first | done | with_reducible rfl)
                 try simp only [Act.put, List.setIfInBounds_toArray, List.set_cons_zero, List.set_cons_succ]))
            refine wpSeq_call (v := .bool true) (by rfl) (fun W hS => ?_) (fun W hS => (G1.out W hS.bel)) ?_
            · (clear hS; go_simp; done)
            try simp only [Act.put, List.setIfInBounds_toArray, List.set_cons_zero, List.set_cons_succ]
            repeat (first
              | (refine wpSeq_off (by rfl) ?_; try simp only [Act.put, List.setIfInBounds_toArray, List.set_cons_zero, List.set_cons_succ])
              | (refine wpSeq_val (v := ?_) (by rfl) (fun W hS => ?_) ?_
                 rotate_left
                 · (have fx := hS.facts; simp only [factsOf, cellsOf, Nat.zero_add, Nat.reduceAdd] at fx; clear hS; go_simp; first | done | with_reducible rfl)
                 try simp only [Act.put, List.setIfInBounds_toArray, List.set_cons_zero, List.set_cons_succ]))
            refine wpSeq_call (v := .string (natS 1000000)) (by rfl) (fun W hS => ?_) (fun W hS => (O1.out W hS.bel)) ?_
            · (clear hS; go_simp; done)
            try simp only [Act.put, List.setIfInBounds_toArray, List.set_cons_zero, List.set_cons_succ]
            repeat (first
              | (refine wpSeq_off (by rfl) ?_; try simp only [Act.put, List.setIfInBounds_toArray, List.set_cons_zero, List.set_cons_succ])
              | (refine wpSeq_val (v := ?_) (by rfl) (fun W hS => ?_) ?_
                 rotate_left
                 · (have fx := hS.facts; simp only [factsOf, cellsOf, Nat.zero_add, Nat.reduceAdd] at fx; clear hS; go_simp; first | done | with_reducible rfl)
                 try simp only [Act.put, List.setIfInBounds_toArray, List.set_cons_zero, List.set_cons_succ]))
            refine wpSeq_call (v := .int .i64 (cmpN (sval x.num) (sval (natS 1000000)))) (by rfl) (fun W hS => ?_) (fun W hS => (C1.out W hS.bel)) ?_
            · (clear hS; go_simp; done)
            try simp only [Act.put, List.setIfInBounds_toArray, List.set_cons_zero, List.set_cons_succ]
            repeat (first
              | (refine wpSeq_off (by rfl) ?_; try simp only [Act.put, List.setIfInBounds_toArray, List.set_cons_zero, List.set_cons_succ])
              | (refine wpSeq_val (v := ?_) (by rfl) (fun W hS => ?_) ?_
                 rotate_left
                 · (have fx := hS.facts; simp only [factsOf, cellsOf, Nat.zero_add, Nat.reduceAdd] at fx; clear hS; go_simp; first | done | with_reducible rfl)
                 try simp only [Act.put, List.setIfInBounds_toArray, List.set_cons_zero, List.set_cons_succ]))
            refine wpSeq_call (v := .string (natS 1000)) (by rfl) (fun W hS => ?_) (fun W hS => (O2.out W hS.bel)) ?_
            · (clear hS; go_simp; done)
            try simp only [Act.put, List.setIfInBounds_toArray, List.set_cons_zero, List.set_cons_succ]
            repeat (first
              | (refine wpSeq_off (by rfl) ?_; try simp only [Act.put, List.setIfInBounds_toArray, List.set_cons_zero, List.set_cons_succ])
              | (refine wpSeq_val (v := ?_) (by rfl) (fun W hS => ?_) ?_
                 rotate_left
                 · (have fx := hS.facts; simp only [factsOf, cellsOf, Nat.zero_add, Nat.reduceAdd] at fx; clear hS; go_simp; first | done | with_reducible rfl)
                 try simp only [Act.put, List.setIfInBounds_toArray, List.set_cons_zero, List.set_cons_succ]))
            refine wpSeq_call (v := .int .i64 (cmpN (sval x.den) (sval (natS 1000)))) (by rfl) (fun W hS => ?_) (fun W hS => (C2.out W hS.bel)) ?_
            · (clear hS; go_simp; done)
            try simp only [Act.put, List.setIfInBounds_toArray, List.set_cons_zero, List.set_cons_succ]
            repeat (first
              | (refine wpSeq_off (by rfl) ?_; try simp only [Act.put, List.setIfInBounds_toArray, List.set_cons_zero, List.set_cons_succ])
              | (refine wpSeq_val (v := ?_) (by rfl) (fun W hS => ?_) ?_
                 rotate_left
                 · (have fx := hS.facts; simp only [factsOf, cellsOf, Nat.zero_add, Nat.reduceAdd] at fx; clear hS; go_simp; first | done | with_reducible rfl)
                 try simp only [Act.put, List.setIfInBounds_toArray, List.set_cons_zero, List.set_cons_succ]))
            refine wpSeq_nil (fun W hS => ?_)
            go_wp2
            go_ret
            exact ⟨congrArg (fun b => Ending.returned (.bool b)) HP.out.symm, hS.bel⟩
          · skip
            have g5 := cmpN_nle h5
            have HP := Lib.hid (show res = false from HR.out.trans <| decide_eq_false fun hs => h5 hs.2.2.2.2)
            rw [decide_eq_true h3] at G1
            refine wp_region_in hI (by kernel_rfl) (by kernel_rfl) ?_
            repeat (first
              | (refine wpSeq_off (by rfl) ?_; try simp only [Act.put, List.setIfInBounds_toArray, List.set_cons_zero, List.set_cons_succ])
              | (refine wpSeq_val (v := ?_) (by rfl) (fun W hS => ?_) ?_
                 rotate_left
                 · (have fx := hS.facts; simp only [factsOf, cellsOf, Nat.zero_add, Nat.reduceAdd] at fx; clear hS; go_simp; first | done | with_reducible rfl)
                 try simp only [Act.put, List.setIfInBounds_toArray, List.set_cons_zero, List.set_cons_succ]))
            refine wpSeq_call (v := .bool true) (by rfl) (fun W hS => ?_) (fun W hS => (G1.out W hS.bel)) ?_
            · (clear hS; go_simp; done)
            try simp only [Act.put, List.setIfInBounds_toArray, List.set_cons_zero, List.set_cons_succ]
            repeat (first
              | (refine wpSeq_off (by rfl) ?_; try simp only [Act.put, List.setIfInBounds_toArray, List.set_cons_zero, List.set_cons_succ])
              | (refine wpSeq_val (v := ?_) (by rfl) (fun W hS => ?_) ?_
                 rotate_left
                 · (have fx := hS.facts; simp only [factsOf, cellsOf, Nat.zero_add, Nat.reduceAdd] at fx; clear hS; go_simp; first | done | with_reducible rfl)
                 try simp only [Act.put, List.setIfInBounds_toArray, List.set_cons_zero, List.set_cons_succ]))
            refine wpSeq_call (v := .string (natS 1000000)) (by rfl) (fun W hS => ?_) (fun W hS => (O1.out W hS.bel)) ?_
            · (clear hS; go_simp; done)
            try simp only [Act.put, List.setIfInBounds_toArray, List.set_cons_zero, List.set_cons_succ]
            repeat (first
              | (refine wpSeq_off (by rfl) ?_; try simp only [Act.put, List.setIfInBounds_toArray, List.set_cons_zero, List.set_cons_succ])
              | (refine wpSeq_val (v := ?_) (by rfl) (fun W hS => ?_) ?_
                 rotate_left
                 · (have fx := hS.facts; simp only [factsOf, cellsOf, Nat.zero_add, Nat.reduceAdd] at fx; clear hS; go_simp; first | done | with_reducible rfl)
                 try simp only [Act.put, List.setIfInBounds_toArray, List.set_cons_zero, List.set_cons_succ]))
            refine wpSeq_call (v := .int .i64 (cmpN (sval x.num) (sval (natS 1000000)))) (by rfl) (fun W hS => ?_) (fun W hS => (C1.out W hS.bel)) ?_
            · (clear hS; go_simp; done)
            try simp only [Act.put, List.setIfInBounds_toArray, List.set_cons_zero, List.set_cons_succ]
            repeat (first
              | (refine wpSeq_off (by rfl) ?_; try simp only [Act.put, List.setIfInBounds_toArray, List.set_cons_zero, List.set_cons_succ])
              | (refine wpSeq_val (v := ?_) (by rfl) (fun W hS => ?_) ?_
                 rotate_left
                 · (have fx := hS.facts; simp only [factsOf, cellsOf, Nat.zero_add, Nat.reduceAdd] at fx; clear hS; go_simp; first | done | with_reducible rfl)
                 try simp only [Act.put, List.setIfInBounds_toArray, List.set_cons_zero, List.set_cons_succ]))
            refine wpSeq_call (v := .string (natS 1000)) (by rfl) (fun W hS => ?_) (fun W hS => (O2.out W hS.bel)) ?_
            · (clear hS; go_simp; done)
            try simp only [Act.put, List.setIfInBounds_toArray, List.set_cons_zero, List.set_cons_succ]
            repeat (first
              | (refine wpSeq_off (by rfl) ?_; try simp only [Act.put, List.setIfInBounds_toArray, List.set_cons_zero, List.set_cons_succ])
              | (refine wpSeq_val (v := ?_) (by rfl) (fun W hS => ?_) ?_
                 rotate_left
                 · (have fx := hS.facts; simp only [factsOf, cellsOf, Nat.zero_add, Nat.reduceAdd] at fx; clear hS; go_simp; first | done | with_reducible rfl)
                 try simp only [Act.put, List.setIfInBounds_toArray, List.set_cons_zero, List.set_cons_succ]))
            refine wpSeq_call (v := .int .i64 (cmpN (sval x.den) (sval (natS 1000)))) (by rfl) (fun W hS => ?_) (fun W hS => (C2.out W hS.bel)) ?_
            · (clear hS; go_simp; done)
            try simp only [Act.put, List.setIfInBounds_toArray, List.set_cons_zero, List.set_cons_succ]
            repeat (first
              | (refine wpSeq_off (by rfl) ?_; try simp only [Act.put, List.setIfInBounds_toArray, List.set_cons_zero, List.set_cons_succ])
              | (refine wpSeq_val (v := ?_) (by rfl) (fun W hS => ?_) ?_
                 rotate_left
                 · (have fx := hS.facts; simp only [factsOf, cellsOf, Nat.zero_add, Nat.reduceAdd] at fx; clear hS; go_simp; first | done | with_reducible rfl)
                 try simp only [Act.put, List.setIfInBounds_toArray, List.set_cons_zero, List.set_cons_succ]))
            refine wpSeq_nil (fun W hS => ?_)
            go_wp2
            go_ret
            exact ⟨congrArg (fun b => Ending.returned (.bool b)) HP.out.symm, hS.bel⟩
        · skip
          have g4 := cmpN_nle h4
          have HP := Lib.hid (show res = false from HR.out.trans <| decide_eq_false fun hs => h4 hs.2.2.2.1)
          rw [decide_eq_true h3] at G1
          refine wp_region_in hI (by kernel_rfl) (by kernel_rfl) ?_
          repeat (first
            | (refine wpSeq_off (by rfl) ?_; try simp only [Act.put, List.setIfInBounds_toArray, List.set_cons_zero, List.set_cons_succ])
            | (refine wpSeq_val (v := ?_) (by rfl) (fun W hS => ?_) ?_
               rotate_left
               · (have fx := hS.facts; simp only [factsOf, cellsOf, Nat.zero_add, Nat.reduceAdd] at fx; clear hS; go_simp; first | done | with_reducible rfl)
               try simp only [Act.put, List.setIfInBounds_toArray, List.set_cons_zero, List.set_cons_succ]))
          refine wpSeq_call (v := .bool true) (by rfl) (fun W hS => ?_) (fun W hS => (G1.out W hS.bel)) ?_
          · (clear hS; go_simp; done)
          try simp only [Act.put, List.setIfInBounds_toArray, List.set_cons_zero, List.set_cons_succ]
          repeat (first
            | (refine wpSeq_off (by rfl) ?_; try simp only [Act.put, List.setIfInBounds_toArray, List.set_cons_zero, List.set_cons_succ])
            | (refine wpSeq_val (v := ?_) (by rfl) (fun W hS => ?_) ?_
               rotate_left
               · (have fx := hS.facts; simp only [factsOf, cellsOf, Nat.zero_add, Nat.reduceAdd] at fx; clear hS; go_simp; first | done | with_reducible rfl)
               try simp only [Act.put, List.setIfInBounds_toArray, List.set_cons_zero, List.set_cons_succ]))
          refine wpSeq_call (v := .string (natS 1000000)) (by rfl) (fun W hS => ?_) (fun W hS => (O1.out W hS.bel)) ?_
          · (clear hS; go_simp; done)
          try simp only [Act.put, List.setIfInBounds_toArray, List.set_cons_zero, List.set_cons_succ]
          repeat (first
            | (refine wpSeq_off (by rfl) ?_; try simp only [Act.put, List.setIfInBounds_toArray, List.set_cons_zero, List.set_cons_succ])
            | (refine wpSeq_val (v := ?_) (by rfl) (fun W hS => ?_) ?_
               rotate_left
               · (have fx := hS.facts; simp only [factsOf, cellsOf, Nat.zero_add, Nat.reduceAdd] at fx; clear hS; go_simp; first | done | with_reducible rfl)
               try simp only [Act.put, List.setIfInBounds_toArray, List.set_cons_zero, List.set_cons_succ]))
          refine wpSeq_call (v := .int .i64 (cmpN (sval x.num) (sval (natS 1000000)))) (by rfl) (fun W hS => ?_) (fun W hS => (C1.out W hS.bel)) ?_
          · (clear hS; go_simp; done)
          try simp only [Act.put, List.setIfInBounds_toArray, List.set_cons_zero, List.set_cons_succ]
          repeat (first
            | (refine wpSeq_off (by rfl) ?_; try simp only [Act.put, List.setIfInBounds_toArray, List.set_cons_zero, List.set_cons_succ])
            | (refine wpSeq_val (v := ?_) (by rfl) (fun W hS => ?_) ?_
               rotate_left
               · (have fx := hS.facts; simp only [factsOf, cellsOf, Nat.zero_add, Nat.reduceAdd] at fx; clear hS; go_simp; first | done | with_reducible rfl)
               try simp only [Act.put, List.setIfInBounds_toArray, List.set_cons_zero, List.set_cons_succ]))
          refine wpSeq_nil (fun W hS => ?_)
          go_wp2
          go_ret
          exact ⟨congrArg (fun b => Ending.returned (.bool b)) HP.out.symm, hS.bel⟩
      · skip
        have HP := Lib.hid (show res = false from HR.out.trans <| decide_eq_false fun hs => h3 hs.2.2.1)
        rw [decide_eq_false h3] at G1
        refine wp_region_in hI (by kernel_rfl) (by kernel_rfl) ?_
        repeat (first
          | (refine wpSeq_off (by rfl) ?_; try simp only [Act.put, List.setIfInBounds_toArray, List.set_cons_zero, List.set_cons_succ])
          | (refine wpSeq_val (v := ?_) (by rfl) (fun W hS => ?_) ?_
             rotate_left
             · (have fx := hS.facts; simp only [factsOf, cellsOf, Nat.zero_add, Nat.reduceAdd] at fx; clear hS; go_simp; first | done | with_reducible rfl)
             try simp only [Act.put, List.setIfInBounds_toArray, List.set_cons_zero, List.set_cons_succ]))
        refine wpSeq_call (v := .bool false) (by rfl) (fun W hS => ?_) (fun W hS => (G1.out W hS.bel)) ?_
        · (clear hS; go_simp; done)
        try simp only [Act.put, List.setIfInBounds_toArray, List.set_cons_zero, List.set_cons_succ]
        repeat (first
          | (refine wpSeq_off (by rfl) ?_; try simp only [Act.put, List.setIfInBounds_toArray, List.set_cons_zero, List.set_cons_succ])
          | (refine wpSeq_val (v := ?_) (by rfl) (fun W hS => ?_) ?_
             rotate_left
             · (have fx := hS.facts; simp only [factsOf, cellsOf, Nat.zero_add, Nat.reduceAdd] at fx; clear hS; go_simp; first | done | with_reducible rfl)
             try simp only [Act.put, List.setIfInBounds_toArray, List.set_cons_zero, List.set_cons_succ]))
        refine wpSeq_nil (fun W hS => ?_)
        go_wp2
        go_ret
        exact ⟨congrArg (fun b => Ending.returned (.bool b)) HP.out.symm, hS.bel⟩
    · skip
      have g2 : ¬ (x.den.size : Int) ≤ 2 := by omega
      have HP := Lib.hid (show res = false from HR.out.trans <| decide_eq_false fun hs => h2 hs.2.1)
      refine wp_region_in hI (by kernel_rfl) (by kernel_rfl) ?_
      repeat (first
        | (refine wpSeq_off (by rfl) ?_; try simp only [Act.put, List.setIfInBounds_toArray, List.set_cons_zero, List.set_cons_succ])
        | (refine wpSeq_val (v := ?_) (by rfl) (fun W hS => ?_) ?_
           rotate_left
           · (have fx := hS.facts; simp only [factsOf, cellsOf, Nat.zero_add, Nat.reduceAdd] at fx; clear hS; go_simp; first | done | with_reducible rfl)
           try simp only [Act.put, List.setIfInBounds_toArray, List.set_cons_zero, List.set_cons_succ]))
      refine wpSeq_nil (fun W hS => ?_)
      go_wp2
      go_ret
      exact ⟨congrArg (fun b => Ending.returned (.bool b)) HP.out.symm, hS.bel⟩
  · skip
    have g1 : ¬ (x.num.size : Int) ≤ 3 := by omega
    have HP := Lib.hid (show res = false from HR.out.trans <| decide_eq_false fun hs => h1 hs.1)
    refine wp_region_in hI (by kernel_rfl) (by kernel_rfl) ?_
    repeat (first
      | (refine wpSeq_off (by rfl) ?_; try simp only [Act.put, List.setIfInBounds_toArray, List.set_cons_zero, List.set_cons_succ])
      | (refine wpSeq_val (v := ?_) (by rfl) (fun W hS => ?_) ?_
         rotate_left
         · (have fx := hS.facts; simp only [factsOf, cellsOf, Nat.zero_add, Nat.reduceAdd] at fx; clear hS; go_simp; first | done | with_reducible rfl)
         try simp only [Act.put, List.setIfInBounds_toArray, List.set_cons_zero, List.set_cons_succ]))
    refine wpSeq_nil (fun W hS => ?_)
    go_wp2
    go_ret
    exact ⟨congrArg (fun b => Ending.returned (.bool b)) HP.out.symm, hS.bel⟩
/-- the loop of arm.small: those ahead of k are small -/
def SmRel (w : World) (l : List Q3) (i : Value) (wr : World) : Prop := ∃ k : Nat, k ≤ l.length ∧ i = .int .i64 k ∧ (∀ (j : Nat) (x : Q3), j < k → l[j]? = some x → SmallP x) ∧ In w [] wr
def AllSmall (l : List Q3) : Prop := ∀ x ∈ l, SmallP x
instance (l : List Q3) : Decidable (AllSmall l) := by unfold AllSmall; infer_instance
set_option maxRecDepth 100000 in
set_option maxHeartbeats 4000000 in
theorem smalls_any (w : World) (hT : TabW w) (v : Value) (l : List Q3) {N : Nat} (hv : SlQ w w.heap.size v l) (hl : ∀ x ∈ l, x.le N) (hN : N ≤ 8796093022208) (hlen : l.length ≤ 4611686018427387904) :
    Calls Tryd.prog 85 #[v] w fun r w' => r = .returned (.bool (decide (AllSmall l))) ∧ Below w.heap.size w w' := by
  have HT := Lib.hid hT
  obtain ⟨A, n, c, rfl, hln, hnc, hA, hrd⟩ := hv
  subst hln
  have HRD := Lib.hid hrd
  have hI := In.start w
  have hst := Lib.hid (show SmRel w l (.int .i64 0) w from ⟨0, Nat.zero_le _, rfl, fun j x hj => absurd hj (Nat.not_lt_zero j), hI⟩)
  obtain ⟨res, hres⟩ : ∃ res, res = decide (AllSmall l) := ⟨_, rfl⟩
  rw [← hres]
  have HR := Lib.hid hres
  clear hrd hT hI hres
  go_enter Tryd.func85, Tryd.ntmps85
  go_wp2_with fail
  go_loopw [7] (fun i wr => SmRel w l i wr) (fun i _ => l.length - (intOf i).toNat)
  case atStart => exact hst.out
  case round =>
    clear hst
    obtain ⟨k, hk, rfl, hok, hI⟩ := hrel
    by_cases hkn : k < l.length
    · have hki : (k : Int) < (l.length : Int) := by omega
      have hki2 : 0 ≤ (k : Int) ∧ (k : Int) < (l.length : Int) := by omega
      obtain ⟨x, hx⟩ : ∃ x, l[k]? = some x := ⟨_, List.getElem?_eq_getElem hkn⟩
      obtain ⟨b, o, rfl, hbB, e0, e1, e2⟩ := Rd.quot HRD.out hx
      have d0 := (hI.bel.cell (p := ⟨b, o + k * 3, none⟩) hbB).trans e0
      have d1 := (hI.bel.cell (p := ⟨b, o + k * 3 + 1, none⟩) hbB).trans e1
      have d2 := (hI.bel.cell (p := ⟨b, o + k * 3 + 2, none⟩) hbB).trans e2
      have hbn : b < wr.heap.size := Nat.lt_of_lt_of_le hbB hI.bel.size
      have hwk : IntKind.i64.wrap ((k : Int) + 1) = (k : Int) + 1 := by rw [IntKind.wrap_i64]; omega
      have SR := smallR w HT.out x (hl x (List.mem_of_getElem? hx))
      have HX := Lib.hid hx
      have HOK := Lib.hid hok
      replace hI := hI.alloc 25 #[.bool x.neg, .string x.num, .string x.den]
      clear e0 e1 e2 hx hok
      go_upto_region 4 with (fail)
      clear d0 d1 d2 hbn
      generalize wr.heap.size = g at hI ⊢
      generalize World.alloc _ _ = W1 at hI ⊢
      have fx := hI.facts
      simp only [factsOf, cellsOf, Nat.zero_add, Nat.reduceAdd] at fx
      by_cases hs : SmallP x
      · have HR := Lib.hid (show ∀ W, In w [(g, 25, #[.bool x.neg, .string x.num, .string x.den])] W → SmRel w l (.int .i64 ((k : Int) + 1)) W from fun W hW => ⟨k + 1, hkn, by simp, fun j y hj hy => by
          rcases Nat.lt_or_ge j k with h | h
          · exact HOK.out j y h hy
          · rw [show j = k by omega, HX.out] at hy; cases hy; exact hs, hW.tail⟩)
        rw [decide_eq_true hs] at SR
        clear hs HOK
        go_wp2_with fail
        refine (SR.out _ hI.bel).mono ?_
        rintro e wn ⟨rfl, hb⟩
        replace hI := hI.call hb
        clear hb
        go_wp2_with fail
        go_roundw
        case rel => exact HR.out _ hI
        case measure => simp [intOf]; omega
      · have HP := Lib.hid (show res = false from HR.out.trans <| decide_eq_false fun h => hs (h x (List.mem_of_getElem? HX.out)))
        rw [decide_eq_false hs] at SR
        clear hs HOK
        go_wp2_with fail
        refine (SR.out _ hI.bel).mono ?_
        rintro e wn ⟨rfl, hb⟩
        replace hI := hI.call hb
        clear hb
        go_wp2
        go_ret
        exact ⟨congrArg (fun b => Ending.returned (.bool b)) HP.out.symm, hI.bel⟩
    · obtain rfl : k = l.length := by omega
      have hki : ¬ (l.length : Int) < (l.length : Int) := by omega
      have HP := Lib.hid (show res = true from HR.out.trans <| decide_eq_true fun x hx => by
        obtain ⟨j, hj, rfl⟩ := List.getElem_of_mem hx
        exact hok j _ hj (List.getElem?_eq_getElem hj))
      clear hok
      go_wp2
      go_ret
      exact ⟨congrArg (fun b => Ending.returned (.bool b)) HP.out.symm, hI.bel⟩
end Go.Proofs.YtnnbnecpcppkdaaDoor
