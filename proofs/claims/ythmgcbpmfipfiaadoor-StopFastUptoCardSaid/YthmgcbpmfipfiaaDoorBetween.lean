/- gantref5.Between. Conditions: those typed. -/
import Derived.Test.YthmgcbpmfipfiaaDoorMakeQ
import Derived.Test.YthmgcbpmfipfiaaDoorSeqIn
namespace Go.Proofs.YthmgcbpmfipfiaaDoor
open Go.RowKit Go.Gy
set_option linter.unusedVariables false
def btw (a b c : Rat) : Bool := decide (a ≤ b) && decide (b ≤ c)
set_option maxRecDepth 100000 in
set_option maxHeartbeats 4000000 in
theorem betweenR (w : World) (hT : TabW w) (a b c : Q3) (ha : a.le 1099511627776) (hb : b.le 1099511627776) (hc : c.le 1099511627776) :
    Hid (∀ W, Below w.heap.size w W → Calls Tryd.prog 37 #[.agg #[.bool a.neg, .string a.num, .string a.den], .agg #[.bool b.neg, .string b.num, .string b.den], .agg #[.bool c.neg, .string c.num, .string c.den]] W fun r w' => r = .returned (.bool (btw a.q b.q c.q)) ∧ Below W.heap.size W w') := by
  obtain ⟨c1, _, p1, _, C1⟩ := cmpR w hT a b ha hb
  obtain ⟨c2, _, p2, _, C2⟩ := cmpR w hT b c hb hc
  refine Lib.hid fun W0 hW0 => ?_
  replace C1 := up C1 hW0
  replace C2 := up C2 hW0
  have hI := (((In.start W0).alloc 27 #[.bool a.neg, .string a.num, .string a.den]).alloc 27 #[.bool b.neg, .string b.num, .string b.den]).alloc 27 #[.bool c.neg, .string c.num, .string c.den]
  rw [World.size_alloc, World.size_alloc] at hI
  have t1 : decide (c1 ≤ 0) = decide (a.q ≤ b.q) := decide_eq_decide.mpr (by rw [← Rat.not_lt, ← p1]; omega)
  have t2 : decide (c2 ≤ 0) = decide (b.q ≤ c.q) := decide_eq_decide.mpr (by rw [← Rat.not_lt, ← p2]; omega)
  have HP := Lib.hid (show btw a.q b.q c.q = (decide (c1 ≤ 0) && decide (c2 ≤ 0)) by unfold btw; rw [t1, t2])
  obtain ⟨res, hres⟩ : ∃ res, res = btw a.q b.q c.q := ⟨_, rfl⟩
  rw [← hres] at HP ⊢
  clear p1 p2 t1 t2 hres hT hW0
  go_enter Tryd.func37, Tryd.ntmps37
  go_upto_region 1 with (fail)
  generalize World.alloc _ _ = W1 at hI ⊢
  by_cases h1 : c1 ≤ 0
  · have HP1 := Lib.hid (show decide (c2 ≤ 0) = res from by rw [HP.out, decide_eq_true h1]; rfl)
    refine wp_region_in_plain_all hI ?_
    repeat (first
      | (refine wpSeq_off (by rfl) ?_; try simp only [Act.put, List.setIfInBounds_toArray, List.set_cons_zero, List.set_cons_succ])
      | (refine wpSeq_val (v := ?_) (by rfl) (fun W hS => ?_) ?_
         rotate_left
         · (have fx := hS.facts; simp only [factsOf, cellsOf, Nat.zero_add, Nat.reduceAdd] at fx; clear hS; go_simp; first | done | with_reducible rfl)
         try simp only [Act.put, List.setIfInBounds_toArray, List.set_cons_zero, List.set_cons_succ]))
    refine wpSeq_call (v := .int .i64 c1) (by rfl) (fun W hS => ?_) (fun W hS => (C1.out W hS.bel)) ?_
    · (clear hS; go_simp; done)
    try simp only [Act.put, List.setIfInBounds_toArray, List.set_cons_zero, List.set_cons_succ]
    repeat (first
      | (refine wpSeq_off (by rfl) ?_; try simp only [Act.put, List.setIfInBounds_toArray, List.set_cons_zero, List.set_cons_succ])
      | (refine wpSeq_val (v := ?_) (by rfl) (fun W hS => ?_) ?_
         rotate_left
         · (have fx := hS.facts; simp only [factsOf, cellsOf, Nat.zero_add, Nat.reduceAdd] at fx; clear hS; go_simp; first | done | with_reducible rfl)
         try simp only [Act.put, List.setIfInBounds_toArray, List.set_cons_zero, List.set_cons_succ]))
    refine wpSeq_call (v := .int .i64 c2) (by rfl) (fun W hS => ?_) (fun W hS => (C2.out W hS.bel)) ?_
    · (clear hS; go_simp; done)
    try simp only [Act.put, List.setIfInBounds_toArray, List.set_cons_zero, List.set_cons_succ]
    repeat (first
      | (refine wpSeq_off (by rfl) ?_; try simp only [Act.put, List.setIfInBounds_toArray, List.set_cons_zero, List.set_cons_succ])
      | (refine wpSeq_val (v := ?_) (by rfl) (fun W hS => ?_) ?_
         rotate_left
         · (have fx := hS.facts; simp only [factsOf, cellsOf, Nat.zero_add, Nat.reduceAdd] at fx; clear hS; go_simp; first | done | with_reducible rfl)
         try simp only [Act.put, List.setIfInBounds_toArray, List.set_cons_zero, List.set_cons_succ]))
    refine wpSeq_nil (fun W hS => ?_)
    go_wp2
    go_ret
    exact ⟨congrArg (fun b => Ending.returned (.bool b)) HP1.out, hS.bel⟩
  · have HP1 := Lib.hid (show false = res from by rw [HP.out, decide_eq_false h1]; rfl)
    refine wp_region_in_plain_all hI ?_
    repeat (first
      | (refine wpSeq_off (by rfl) ?_; try simp only [Act.put, List.setIfInBounds_toArray, List.set_cons_zero, List.set_cons_succ])
      | (refine wpSeq_val (v := ?_) (by rfl) (fun W hS => ?_) ?_
         rotate_left
         · (have fx := hS.facts; simp only [factsOf, cellsOf, Nat.zero_add, Nat.reduceAdd] at fx; clear hS; go_simp; first | done | with_reducible rfl)
         try simp only [Act.put, List.setIfInBounds_toArray, List.set_cons_zero, List.set_cons_succ]))
    refine wpSeq_call (v := .int .i64 c1) (by rfl) (fun W hS => ?_) (fun W hS => (C1.out W hS.bel)) ?_
    · (clear hS; go_simp; done)
    try simp only [Act.put, List.setIfInBounds_toArray, List.set_cons_zero, List.set_cons_succ]
    repeat (first
      | (refine wpSeq_off (by rfl) ?_; try simp only [Act.put, List.setIfInBounds_toArray, List.set_cons_zero, List.set_cons_succ])
      | (refine wpSeq_val (v := ?_) (by rfl) (fun W hS => ?_) ?_
         rotate_left
         · (have fx := hS.facts; simp only [factsOf, cellsOf, Nat.zero_add, Nat.reduceAdd] at fx; clear hS; go_simp; first | done | with_reducible rfl)
         try simp only [Act.put, List.setIfInBounds_toArray, List.set_cons_zero, List.set_cons_succ]))
    refine wpSeq_nil (fun W hS => ?_)
    go_wp2
    go_ret
    exact ⟨congrArg (fun b => Ending.returned (.bool b)) HP1.out, hS.bel⟩
end Go.Proofs.YthmgcbpmfipfiaaDoor
