/- apart.Boxes, zone.Touch. Conditions: those typed. -/
import Derived.Test.YthmgcbpmfipfiaaDoorZoneA
namespace Go.Proofs.YthmgcbpmfipfiaaDoor
open Go.RowKit Go.Gy
set_option linter.unusedVariables false
/-- a box: its low and its high corner -/
structure B4 where
  a : Q3
  b : Q3
  c : Q3
  d : Q3
def B4.le (x : B4) (N : Nat) : Prop := x.a.le N ∧ x.b.le N ∧ x.c.le N ∧ x.d.le N
def validB (x : B4) : Bool := decide (x.a.q ≤ x.c.q) && decide (x.b.q ≤ x.d.q)
set_option maxRecDepth 100000 in
set_option maxHeartbeats 4000000 in
theorem validR (w : World) (hT : TabW w) (x : B4) (hx : x.le 1099511627776) :
    Hid (∀ W, Below w.heap.size w W → Calls Tryd.prog 105 #[.agg #[.bool x.a.neg, .string x.a.num, .string x.a.den, .bool x.b.neg, .string x.b.num, .string x.b.den, .bool x.c.neg, .string x.c.num, .string x.c.den, .bool x.d.neg, .string x.d.num, .string x.d.den]] W fun r w' => r = .returned (.bool (validB x)) ∧ Below W.heap.size W w') := by
  obtain ⟨ha, hb, hc, hd⟩ := hx
  obtain ⟨c1, _, p1, _, C1⟩ := cmpR w hT x.a x.c ha hc
  obtain ⟨c2, _, p2, _, C2⟩ := cmpR w hT x.b x.d hb hd
  refine Lib.hid fun W0 hW0 => ?_
  replace C1 := up C1 hW0
  replace C2 := up C2 hW0
  have hI := (In.start W0).alloc 64 #[.bool x.a.neg, .string x.a.num, .string x.a.den, .bool x.b.neg, .string x.b.num, .string x.b.den, .bool x.c.neg, .string x.c.num, .string x.c.den, .bool x.d.neg, .string x.d.num, .string x.d.den]
  have t1 : decide (c1 ≤ 0) = decide (x.a.q ≤ x.c.q) := decide_eq_decide.mpr (by rw [← Rat.not_lt, ← p1]; omega)
  have t2 : decide (c2 ≤ 0) = decide (x.b.q ≤ x.d.q) := decide_eq_decide.mpr (by rw [← Rat.not_lt, ← p2]; omega)
  have HP := Lib.hid (show validB x = (decide (c1 ≤ 0) && decide (c2 ≤ 0)) by unfold validB; rw [t1, t2])
  obtain ⟨res, hres⟩ : ∃ res, res = validB x := ⟨_, rfl⟩
  rw [← hres] at HP ⊢
  clear p1 p2 t1 t2 hres hT hW0
  go_enter Tryd.func105, Tryd.ntmps105
  go_upto_region 1 with (fail)
  generalize World.alloc _ _ = W1 at hI ⊢
  by_cases hc1 : c1 ≤ 0
  · by_cases hc2 : c2 ≤ 0
    · have HP1 := Lib.hid (show res = true from by rw [HP.out, decide_eq_true hc1, decide_eq_true hc2]; rfl)
      refine wp_region_in_plain_all hI ?_
      repeat (first
        | (refine wpSeq_off (by rfl) ?_; try simp only [Act.put, List.setIfInBounds_toArray, List.set_cons_zero, List.set_cons_succ])
        | (refine wpSeq_val (v := ?_) (by rfl) (fun W hS => ?_) ?_
           rotate_left
           · (have fx := hS.facts; simp only [factsOf, cellsOf, Nat.zero_add, Nat.reduceAdd] at fx; clear hS; go_simp; first | done | with_reducible rfl)
           try simp only [Act.put, List.setIfInBounds_toArray, List.set_cons_zero, List.set_cons_succ]))
      refine wpSeq_call (v := .int .i64 c1) (by rfl) (fun W hS => ?_) (fun W hS => (C1.out W hS.bel)) ?_
      · (clear hS; go_simp; done)
      try simp only [Act.put, List.setIfInBounds_toArray, List.set_cons_zero, List.set_cons_succ]
      repeat (first
        | (refine wpSeq_off (by rfl) ?_; try simp only [Act.put, List.setIfInBounds_toArray, List.set_cons_zero, List.set_cons_succ])
        | (refine wpSeq_val (v := ?_) (by rfl) (fun W hS => ?_) ?_
           rotate_left
           · (have fx := hS.facts; simp only [factsOf, cellsOf, Nat.zero_add, Nat.reduceAdd] at fx; clear hS; go_simp; first | done | with_reducible rfl)
           try simp only [Act.put, List.setIfInBounds_toArray, List.set_cons_zero, List.set_cons_succ]))
      refine wpSeq_call (v := .int .i64 c2) (by rfl) (fun W hS => ?_) (fun W hS => (C2.out W hS.bel)) ?_
      · (clear hS; go_simp; done)
      try simp only [Act.put, List.setIfInBounds_toArray, List.set_cons_zero, List.set_cons_succ]
      repeat (first
        | (refine wpSeq_off (by rfl) ?_; try simp only [Act.put, List.setIfInBounds_toArray, List.set_cons_zero, List.set_cons_succ])
        | (refine wpSeq_val (v := ?_) (by rfl) (fun W hS => ?_) ?_
           rotate_left
           · (have fx := hS.facts; simp only [factsOf, cellsOf, Nat.zero_add, Nat.reduceAdd] at fx; clear hS; go_simp; first | done | with_reducible rfl)
           try simp only [Act.put, List.setIfInBounds_toArray, List.set_cons_zero, List.set_cons_succ]))
      refine wpSeq_nil (fun W hS => ?_)
      go_wp2
      go_ret
      exact ⟨congrArg (fun b => Ending.returned (.bool b)) HP1.out.symm, hS.bel⟩
    · have HP1 := Lib.hid (show res = false from by rw [HP.out, decide_eq_true hc1, decide_eq_false hc2]; rfl)
      refine wp_region_in_plain_all hI ?_
      repeat (first
        | (refine wpSeq_off (by rfl) ?_; try simp only [Act.put, List.setIfInBounds_toArray, List.set_cons_zero, List.set_cons_succ])
        | (refine wpSeq_val (v := ?_) (by rfl) (fun W hS => ?_) ?_
           rotate_left
           · (have fx := hS.facts; simp only [factsOf, cellsOf, Nat.zero_add, Nat.reduceAdd] at fx; clear hS; go_simp; first | done | with_reducible rfl)
           try simp only [Act.put, List.setIfInBounds_toArray, List.set_cons_zero, List.set_cons_succ]))
      refine wpSeq_call (v := .int .i64 c1) (by rfl) (fun W hS => ?_) (fun W hS => (C1.out W hS.bel)) ?_
      · (clear hS; go_simp; done)
      try simp only [Act.put, List.setIfInBounds_toArray, List.set_cons_zero, List.set_cons_succ]
      repeat (first
        | (refine wpSeq_off (by rfl) ?_; try simp only [Act.put, List.setIfInBounds_toArray, List.set_cons_zero, List.set_cons_succ])
        | (refine wpSeq_val (v := ?_) (by rfl) (fun W hS => ?_) ?_
           rotate_left
           · (have fx := hS.facts; simp only [factsOf, cellsOf, Nat.zero_add, Nat.reduceAdd] at fx; clear hS; go_simp; first | done | with_reducible rfl)
           try simp only [Act.put, List.setIfInBounds_toArray, List.set_cons_zero, List.set_cons_succ]))
      refine wpSeq_call (v := .int .i64 c2) (by rfl) (fun W hS => ?_) (fun W hS => (C2.out W hS.bel)) ?_
      · (clear hS; go_simp; done)
      try simp only [Act.put, List.setIfInBounds_toArray, List.set_cons_zero, List.set_cons_succ]
      repeat (first
        | (refine wpSeq_off (by rfl) ?_; try simp only [Act.put, List.setIfInBounds_toArray, List.set_cons_zero, List.set_cons_succ])
        | (refine wpSeq_val (v := ?_) (by rfl) (fun W hS => ?_) ?_
           rotate_left
           · (have fx := hS.facts; simp only [factsOf, cellsOf, Nat.zero_add, Nat.reduceAdd] at fx; clear hS; go_simp; first | done | with_reducible rfl)
           try simp only [Act.put, List.setIfInBounds_toArray, List.set_cons_zero, List.set_cons_succ]))
      refine wpSeq_nil (fun W hS => ?_)
      go_wp2
      go_ret
      exact ⟨congrArg (fun b => Ending.returned (.bool b)) HP1.out.symm, hS.bel⟩
  · have HP1 := Lib.hid (show res = false from by rw [HP.out, decide_eq_false hc1]; rfl)
    refine wp_region_in_plain_all hI ?_
    repeat (first
      | (refine wpSeq_off (by rfl) ?_; try simp only [Act.put, List.setIfInBounds_toArray, List.set_cons_zero, List.set_cons_succ])
      | (refine wpSeq_val (v := ?_) (by rfl) (fun W hS => ?_) ?_
         rotate_left
         · (have fx := hS.facts; simp only [factsOf, cellsOf, Nat.zero_add, Nat.reduceAdd] at fx; clear hS; go_simp; first | done | with_reducible rfl)
         try simp only [Act.put, List.setIfInBounds_toArray, List.set_cons_zero, List.set_cons_succ]))
    refine wpSeq_call (v := .int .i64 c1) (by rfl) (fun W hS => ?_) (fun W hS => (C1.out W hS.bel)) ?_
    · (clear hS; go_simp; done)
    try simp only [Act.put, List.setIfInBounds_toArray, List.set_cons_zero, List.set_cons_succ]
    repeat (first
      | (refine wpSeq_off (by rfl) ?_; try simp only [Act.put, List.setIfInBounds_toArray, List.set_cons_zero, List.set_cons_succ])
      | (refine wpSeq_val (v := ?_) (by rfl) (fun W hS => ?_) ?_
         rotate_left
         · (have fx := hS.facts; simp only [factsOf, cellsOf, Nat.zero_add, Nat.reduceAdd] at fx; clear hS; go_simp; first | done | with_reducible rfl)
         try simp only [Act.put, List.setIfInBounds_toArray, List.set_cons_zero, List.set_cons_succ]))
    refine wpSeq_nil (fun W hS => ?_)
    go_wp2
    go_ret
    exact ⟨congrArg (fun b => Ending.returned (.bool b)) HP1.out.symm, hS.bel⟩
/-- apart.Boxes -/
def boxesB (x y : B4) : Bool := validB x && (validB y && (decide (x.a.q ≤ y.c.q) && (decide (y.a.q ≤ x.c.q) && (decide (x.b.q ≤ y.d.q) && decide (y.b.q ≤ x.d.q)))))
set_option maxRecDepth 100000 in
set_option maxHeartbeats 8000000 in
theorem boxesR (w : World) (hT : TabW w) (x y : B4) (hx : x.le 1099511627776) (hy : y.le 1099511627776) :
    Hid (∀ W, Below w.heap.size w W → Calls Tryd.prog 84 #[.agg #[.bool x.a.neg, .string x.a.num, .string x.a.den, .bool x.b.neg, .string x.b.num, .string x.b.den, .bool x.c.neg, .string x.c.num, .string x.c.den, .bool x.d.neg, .string x.d.num, .string x.d.den], .agg #[.bool y.a.neg, .string y.a.num, .string y.a.den, .bool y.b.neg, .string y.b.num, .string y.b.den, .bool y.c.neg, .string y.c.num, .string y.c.den, .bool y.d.neg, .string y.d.num, .string y.d.den]] W fun r w' => r = .returned (.bool (boxesB x y)) ∧ Below W.heap.size W w') := by
  have V1 := validR w hT x hx
  have V2 := validR w hT y hy
  obtain ⟨xa, xb, xc, xd⟩ := hx
  obtain ⟨ya, yb, yc, yd⟩ := hy
  obtain ⟨c1, _, p1, _, C1⟩ := cmpR w hT x.a y.c xa yc
  obtain ⟨c2, _, p2, _, C2⟩ := cmpR w hT y.a x.c ya xc
  obtain ⟨c3, _, p3, _, C3⟩ := cmpR w hT x.b y.d xb yd
  obtain ⟨c4, _, p4, _, C4⟩ := cmpR w hT y.b x.d yb xd
  refine Lib.hid fun W0 hW0 => ?_
  replace V1 := up V1 hW0
  replace V2 := up V2 hW0
  replace C1 := up C1 hW0
  replace C2 := up C2 hW0
  replace C3 := up C3 hW0
  replace C4 := up C4 hW0
  have hI := ((In.start W0).alloc 64 #[.bool x.a.neg, .string x.a.num, .string x.a.den, .bool x.b.neg, .string x.b.num, .string x.b.den, .bool x.c.neg, .string x.c.num, .string x.c.den, .bool x.d.neg, .string x.d.num, .string x.d.den]).alloc 64 #[.bool y.a.neg, .string y.a.num, .string y.a.den, .bool y.b.neg, .string y.b.num, .string y.b.den, .bool y.c.neg, .string y.c.num, .string y.c.den, .bool y.d.neg, .string y.d.num, .string y.d.den]
  rw [World.size_alloc] at hI
  have t1 : decide (c1 ≤ 0) = decide (x.a.q ≤ y.c.q) := decide_eq_decide.mpr (by rw [← Rat.not_lt, ← p1]; omega)
  have t2 : decide (c2 ≤ 0) = decide (y.a.q ≤ x.c.q) := decide_eq_decide.mpr (by rw [← Rat.not_lt, ← p2]; omega)
  have t3 : decide (c3 ≤ 0) = decide (x.b.q ≤ y.d.q) := decide_eq_decide.mpr (by rw [← Rat.not_lt, ← p3]; omega)
  have t4 : decide (c4 ≤ 0) = decide (y.b.q ≤ x.d.q) := decide_eq_decide.mpr (by rw [← Rat.not_lt, ← p4]; omega)
  obtain ⟨v1, hv1⟩ : ∃ v, v = validB x := ⟨_, rfl⟩
  obtain ⟨v2, hv2⟩ : ∃ v, v = validB y := ⟨_, rfl⟩
  have HP := Lib.hid (show boxesB x y = (v1 && (v2 && (decide (c1 ≤ 0) && (decide (c2 ≤ 0) && (decide (c3 ≤ 0) && decide (c4 ≤ 0)))))) by unfold boxesB; rw [hv1, hv2, t1, t2, t3, t4])
  obtain ⟨res, hres⟩ : ∃ res, res = boxesB x y := ⟨_, rfl⟩
  rw [← hres] at HP ⊢
  rw [← hv1] at V1
  rw [← hv2] at V2
  clear p1 p2 p3 p4 t1 t2 t3 t4 hv1 hv2 hres hT hW0
  go_enter Tryd.func84, Tryd.ntmps84
  go_upto_region 1 with (fail)
  generalize World.alloc _ _ = W1 at hI ⊢
  rcases Bool.eq_false_or_eq_true v1 with rfl | rfl
  · rcases Bool.eq_false_or_eq_true v2 with rfl | rfl
    · by_cases hc3 : c1 ≤ 0
      · by_cases hc4 : c2 ≤ 0
        · by_cases hc5 : c3 ≤ 0
          · by_cases hc6 : c4 ≤ 0
            · have HP1 := Lib.hid (show res = true from by rw [HP.out, decide_eq_true hc3, decide_eq_true hc4, decide_eq_true hc5, decide_eq_true hc6]; rfl)
              refine wp_region_in_plain_all hI ?_
              repeat (first
                | (refine wpSeq_off (by rfl) ?_; try simp only [Act.put, List.setIfInBounds_toArray, List.set_cons_zero, List.set_cons_succ])
                | (refine wpSeq_val (v := ?_) (by rfl) (fun W hS => ?_) ?_
                   rotate_left
                   · (have fx := hS.facts; simp only [factsOf, cellsOf, Nat.zero_add, Nat.reduceAdd] at fx; clear hS; go_simp; first | done | with_reducible rfl)
                   try simp only [Act.put, List.setIfInBounds_toArray, List.set_cons_zero, List.set_cons_succ]))
              refine wpSeq_call (v := .bool true) (by rfl) (fun W hS => ?_) (fun W hS => (V1.out W hS.bel)) ?_
              · (clear hS; go_simp; done)
              try simp only [Act.put, List.setIfInBounds_toArray, List.set_cons_zero, List.set_cons_succ]
              repeat (first
                | (refine wpSeq_off (by rfl) ?_; try simp only [Act.put, List.setIfInBounds_toArray, List.set_cons_zero, List.set_cons_succ])
                | (refine wpSeq_val (v := ?_) (by rfl) (fun W hS => ?_) ?_
                   rotate_left
                   · (have fx := hS.facts; simp only [factsOf, cellsOf, Nat.zero_add, Nat.reduceAdd] at fx; clear hS; go_simp; first | done | with_reducible rfl)
                   try simp only [Act.put, List.setIfInBounds_toArray, List.set_cons_zero, List.set_cons_succ]))
              refine wpSeq_call (v := .bool true) (by rfl) (fun W hS => ?_) (fun W hS => (V2.out W hS.bel)) ?_
              · (clear hS; go_simp; done)
              try simp only [Act.put, List.setIfInBounds_toArray, List.set_cons_zero, List.set_cons_succ]
              repeat (first
                | (refine wpSeq_off (by rfl) ?_; try simp only [Act.put, List.setIfInBounds_toArray, List.set_cons_zero, List.set_cons_succ])
                | (refine wpSeq_val (v := ?_) (by rfl) (fun W hS => ?_) ?_
                   rotate_left
                   · (have fx := hS.facts; simp only [factsOf, cellsOf, Nat.zero_add, Nat.reduceAdd] at fx; clear hS; go_simp; first | done | with_reducible rfl)
                   try simp only [Act.put, List.setIfInBounds_toArray, List.set_cons_zero, List.set_cons_succ]))
              refine wpSeq_call (v := .int .i64 c1) (by rfl) (fun W hS => ?_) (fun W hS => (C1.out W hS.bel)) ?_
              · (clear hS; go_simp; done)
              try simp only [Act.put, List.setIfInBounds_toArray, List.set_cons_zero, List.set_cons_succ]
              repeat (first
                | (refine wpSeq_off (by rfl) ?_; try simp only [Act.put, List.setIfInBounds_toArray, List.set_cons_zero, List.set_cons_succ])
                | (refine wpSeq_val (v := ?_) (by rfl) (fun W hS => ?_) ?_
                   rotate_left
                   · (have fx := hS.facts; simp only [factsOf, cellsOf, Nat.zero_add, Nat.reduceAdd] at fx; clear hS; go_simp; first | done | with_reducible rfl)
                   try simp only [Act.put, List.setIfInBounds_toArray, List.set_cons_zero, List.set_cons_succ]))
              refine wpSeq_call (v := .int .i64 c2) (by rfl) (fun W hS => ?_) (fun W hS => (C2.out W hS.bel)) ?_
              · (clear hS; go_simp; done)
              try simp only [Act.put, List.setIfInBounds_toArray, List.set_cons_zero, List.set_cons_succ]
              repeat (first
                | (refine wpSeq_off (by rfl) ?_; try simp only [Act.put, List.setIfInBounds_toArray, List.set_cons_zero, List.set_cons_succ])
                | (refine wpSeq_val (v := ?_) (by rfl) (fun W hS => ?_) ?_
                   rotate_left
                   · (have fx := hS.facts; simp only [factsOf, cellsOf, Nat.zero_add, Nat.reduceAdd] at fx; clear hS; go_simp; first | done | with_reducible rfl)
                   try simp only [Act.put, List.setIfInBounds_toArray, List.set_cons_zero, List.set_cons_succ]))
              refine wpSeq_call (v := .int .i64 c3) (by rfl) (fun W hS => ?_) (fun W hS => (C3.out W hS.bel)) ?_
              · (clear hS; go_simp; done)
              try simp only [Act.put, List.setIfInBounds_toArray, List.set_cons_zero, List.set_cons_succ]
              repeat (first
                | (refine wpSeq_off (by rfl) ?_; try simp only [Act.put, List.setIfInBounds_toArray, List.set_cons_zero, List.set_cons_succ])
                | (refine wpSeq_val (v := ?_) (by rfl) (fun W hS => ?_) ?_
                   rotate_left
                   · (have fx := hS.facts; simp only [factsOf, cellsOf, Nat.zero_add, Nat.reduceAdd] at fx; clear hS; go_simp; first | done | with_reducible rfl)
                   try simp only [Act.put, List.setIfInBounds_toArray, List.set_cons_zero, List.set_cons_succ]))
              refine wpSeq_call (v := .int .i64 c4) (by rfl) (fun W hS => ?_) (fun W hS => (C4.out W hS.bel)) ?_
              · (clear hS; go_simp; done)
              try simp only [Act.put, List.setIfInBounds_toArray, List.set_cons_zero, List.set_cons_succ]
              repeat (first
                | (refine wpSeq_off (by rfl) ?_; try simp only [Act.put, List.setIfInBounds_toArray, List.set_cons_zero, List.set_cons_succ])
                | (refine wpSeq_val (v := ?_) (by rfl) (fun W hS => ?_) ?_
                   rotate_left
                   · (have fx := hS.facts; simp only [factsOf, cellsOf, Nat.zero_add, Nat.reduceAdd] at fx; clear hS; go_simp; first | done | with_reducible rfl)
                   try simp only [Act.put, List.setIfInBounds_toArray, List.set_cons_zero, List.set_cons_succ]))
              refine wpSeq_nil (fun W hS => ?_)
              go_wp2
              go_ret
              exact ⟨congrArg (fun b => Ending.returned (.bool b)) HP1.out.symm, hS.bel⟩
            · have HP1 := Lib.hid (show res = false from by rw [HP.out, decide_eq_true hc3, decide_eq_true hc4, decide_eq_true hc5, decide_eq_false hc6]; rfl)
              refine wp_region_in_plain_all hI ?_
              repeat (first
                | (refine wpSeq_off (by rfl) ?_; try simp only [Act.put, List.setIfInBounds_toArray, List.set_cons_zero, List.set_cons_succ])
                | (refine wpSeq_val (v := ?_) (by rfl) (fun W hS => ?_) ?_
                   rotate_left
                   · (have fx := hS.facts; simp only [factsOf, cellsOf, Nat.zero_add, Nat.reduceAdd] at fx; clear hS; go_simp; first | done | with_reducible rfl)
                   try simp only [Act.put, List.setIfInBounds_toArray, List.set_cons_zero, List.set_cons_succ]))
              refine wpSeq_call (v := .bool true) (by rfl) (fun W hS => ?_) (fun W hS => (V1.out W hS.bel)) ?_
              · (clear hS; go_simp; done)
              try simp only [Act.put, List.setIfInBounds_toArray, List.set_cons_zero, List.set_cons_succ]
              repeat (first
                | (refine wpSeq_off (by rfl) ?_; try simp only [Act.put, List.setIfInBounds_toArray, List.set_cons_zero, List.set_cons_succ])
                | (refine wpSeq_val (v := ?_) (by rfl) (fun W hS => ?_) ?_
                   rotate_left
                   · (have fx := hS.facts; simp only [factsOf, cellsOf, Nat.zero_add, Nat.reduceAdd] at fx; clear hS; go_simp; first | done | with_reducible rfl)
                   try simp only [Act.put, List.setIfInBounds_toArray, List.set_cons_zero, List.set_cons_succ]))
              refine wpSeq_call (v := .bool true) (by rfl) (fun W hS => ?_) (fun W hS => (V2.out W hS.bel)) ?_
              · (clear hS; go_simp; done)
              try simp only [Act.put, List.setIfInBounds_toArray, List.set_cons_zero, List.set_cons_succ]
              repeat (first
                | (refine wpSeq_off (by rfl) ?_; try simp only [Act.put, List.setIfInBounds_toArray, List.set_cons_zero, List.set_cons_succ])
                | (refine wpSeq_val (v := ?_) (by rfl) (fun W hS => ?_) ?_
                   rotate_left
                   · (have fx := hS.facts; simp only [factsOf, cellsOf, Nat.zero_add, Nat.reduceAdd] at fx; clear hS; go_simp; first | done | with_reducible rfl)
                   try simp only [Act.put, List.setIfInBounds_toArray, List.set_cons_zero, List.set_cons_succ]))
              refine wpSeq_call (v := .int .i64 c1) (by rfl) (fun W hS => ?_) (fun W hS => (C1.out W hS.bel)) ?_
              · (clear hS; go_simp; done)
              try simp only [Act.put, List.setIfInBounds_toArray, List.set_cons_zero, List.set_cons_succ]
              repeat (first
                | (refine wpSeq_off (by rfl) ?_; try simp only [Act.put, List.setIfInBounds_toArray, List.set_cons_zero, List.set_cons_succ])
                | (refine wpSeq_val (v := ?_) (by rfl) (fun W hS => ?_) ?_
                   rotate_left
                   · (have fx := hS.facts; simp only [factsOf, cellsOf, Nat.zero_add, Nat.reduceAdd] at fx; clear hS; go_simp; first | done | with_reducible rfl)
                   try simp only [Act.put, List.setIfInBounds_toArray, List.set_cons_zero, List.set_cons_succ]))
              refine wpSeq_call (v := .int .i64 c2) (by rfl) (fun W hS => ?_) (fun W hS => (C2.out W hS.bel)) ?_
              · (clear hS; go_simp; done)
              try simp only [Act.put, List.setIfInBounds_toArray, List.set_cons_zero, List.set_cons_succ]
              repeat (first
                | (refine wpSeq_off (by rfl) ?_; try simp only [Act.put, List.setIfInBounds_toArray, List.set_cons_zero, List.set_cons_succ])
                | (refine wpSeq_val (v := ?_) (by rfl) (fun W hS => ?_) ?_
                   rotate_left
                   · (have fx := hS.facts; simp only [factsOf, cellsOf, Nat.zero_add, Nat.reduceAdd] at fx; clear hS; go_simp; first | done | with_reducible rfl)
                   try simp only [Act.put, List.setIfInBounds_toArray, List.set_cons_zero, List.set_cons_succ]))
              refine wpSeq_call (v := .int .i64 c3) (by rfl) (fun W hS => ?_) (fun W hS => (C3.out W hS.bel)) ?_
              · (clear hS; go_simp; done)
              try simp only [Act.put, List.setIfInBounds_toArray, List.set_cons_zero, List.set_cons_succ]
              repeat (first
                | (refine wpSeq_off (by rfl) ?_; try simp only [Act.put, List.setIfInBounds_toArray, List.set_cons_zero, List.set_cons_succ])
                | (refine wpSeq_val (v := ?_) (by rfl) (fun W hS => ?_) ?_
                   rotate_left
                   · (have fx := hS.facts; simp only [factsOf, cellsOf, Nat.zero_add, Nat.reduceAdd] at fx; clear hS; go_simp; first | done | with_reducible rfl)
                   try simp only [Act.put, List.setIfInBounds_toArray, List.set_cons_zero, List.set_cons_succ]))
              refine wpSeq_call (v := .int .i64 c4) (by rfl) (fun W hS => ?_) (fun W hS => (C4.out W hS.bel)) ?_
              · (clear hS; go_simp; done)
              try simp only [Act.put, List.setIfInBounds_toArray, List.set_cons_zero, List.set_cons_succ]
              repeat (first
                | (refine wpSeq_off (by rfl) ?_; try simp only [Act.put, List.setIfInBounds_toArray, List.set_cons_zero, List.set_cons_succ])
                | (refine wpSeq_val (v := ?_) (by rfl) (fun W hS => ?_) ?_
                   rotate_left
                   · (have fx := hS.facts; simp only [factsOf, cellsOf, Nat.zero_add, Nat.reduceAdd] at fx; clear hS; go_simp; first | done | with_reducible rfl)
                   try simp only [Act.put, List.setIfInBounds_toArray, List.set_cons_zero, List.set_cons_succ]))
              refine wpSeq_nil (fun W hS => ?_)
              go_wp2
              go_ret
              exact ⟨congrArg (fun b => Ending.returned (.bool b)) HP1.out.symm, hS.bel⟩
          · have HP1 := Lib.hid (show res = false from by rw [HP.out, decide_eq_true hc3, decide_eq_true hc4, decide_eq_false hc5]; rfl)
            refine wp_region_in_plain_all hI ?_
            repeat (first
              | (refine wpSeq_off (by rfl) ?_; try simp only [Act.put, List.setIfInBounds_toArray, List.set_cons_zero, List.set_cons_succ])
              | (refine wpSeq_val (v := ?_) (by rfl) (fun W hS => ?_) ?_
                 rotate_left
                 · (have fx := hS.facts; simp only [factsOf, cellsOf, Nat.zero_add, Nat.reduceAdd] at fx; clear hS; go_simp; first | done | with_reducible rfl)
                 try simp only [Act.put, List.setIfInBounds_toArray, List.set_cons_zero, List.set_cons_succ]))
            refine wpSeq_call (v := .bool true) (by rfl) (fun W hS => ?_) (fun W hS => (V1.out W hS.bel)) ?_
            · (clear hS; go_simp; done)
            try simp only [Act.put, List.setIfInBounds_toArray, List.set_cons_zero, List.set_cons_succ]
            repeat (first
              | (refine wpSeq_off (by rfl) ?_; try simp only [Act.put, List.setIfInBounds_toArray, List.set_cons_zero, List.set_cons_succ])
              | (refine wpSeq_val (v := ?_) (by rfl) (fun W hS => ?_) ?_
                 rotate_left
                 · (have fx := hS.facts; simp only [factsOf, cellsOf, Nat.zero_add, Nat.reduceAdd] at fx; clear hS; go_simp; first | done | with_reducible rfl)
                 try simp only [Act.put, List.setIfInBounds_toArray, List.set_cons_zero, List.set_cons_succ]))
            refine wpSeq_call (v := .bool true) (by rfl) (fun W hS => ?_) (fun W hS => (V2.out W hS.bel)) ?_
            · (clear hS; go_simp; done)
            try simp only [Act.put, List.setIfInBounds_toArray, List.set_cons_zero, List.set_cons_succ]
            repeat (first
              | (refine wpSeq_off (by rfl) ?_; try simp only [Act.put, List.setIfInBounds_toArray, List.set_cons_zero, List.set_cons_succ])
              | (refine wpSeq_val (v := ?_) (by rfl) (fun W hS => ?_) ?_
                 rotate_left
                 · (have fx := hS.facts; simp only [factsOf, cellsOf, Nat.zero_add, Nat.reduceAdd] at fx; clear hS; go_simp; first | done | with_reducible rfl)
                 try simp only [Act.put, List.setIfInBounds_toArray, List.set_cons_zero, List.set_cons_succ]))
            refine wpSeq_call (v := .int .i64 c1) (by rfl) (fun W hS => ?_) (fun W hS => (C1.out W hS.bel)) ?_
            · (clear hS; go_simp; done)
            try simp only [Act.put, List.setIfInBounds_toArray, List.set_cons_zero, List.set_cons_succ]
            repeat (first
              | (refine wpSeq_off (by rfl) ?_; try simp only [Act.put, List.setIfInBounds_toArray, List.set_cons_zero, List.set_cons_succ])
              | (refine wpSeq_val (v := ?_) (by rfl) (fun W hS => ?_) ?_
                 rotate_left
                 · (have fx := hS.facts; simp only [factsOf, cellsOf, Nat.zero_add, Nat.reduceAdd] at fx; clear hS; go_simp; first | done | with_reducible rfl)
                 try simp only [Act.put, List.setIfInBounds_toArray, List.set_cons_zero, List.set_cons_succ]))
            refine wpSeq_call (v := .int .i64 c2) (by rfl) (fun W hS => ?_) (fun W hS => (C2.out W hS.bel)) ?_
            · (clear hS; go_simp; done)
            try simp only [Act.put, List.setIfInBounds_toArray, List.set_cons_zero, List.set_cons_succ]
            repeat (first
              | (refine wpSeq_off (by rfl) ?_; try simp only [Act.put, List.setIfInBounds_toArray, List.set_cons_zero, List.set_cons_succ])
              | (refine wpSeq_val (v := ?_) (by rfl) (fun W hS => ?_) ?_
                 rotate_left
                 · (have fx := hS.facts; simp only [factsOf, cellsOf, Nat.zero_add, Nat.reduceAdd] at fx; clear hS; go_simp; first | done | with_reducible rfl)
                 try simp only [Act.put, List.setIfInBounds_toArray, List.set_cons_zero, List.set_cons_succ]))
            refine wpSeq_call (v := .int .i64 c3) (by rfl) (fun W hS => ?_) (fun W hS => (C3.out W hS.bel)) ?_
            · (clear hS; go_simp; done)
            try simp only [Act.put, List.setIfInBounds_toArray, List.set_cons_zero, List.set_cons_succ]
            repeat (first
              | (refine wpSeq_off (by rfl) ?_; try simp only [Act.put, List.setIfInBounds_toArray, List.set_cons_zero, List.set_cons_succ])
              | (refine wpSeq_val (v := ?_) (by rfl) (fun W hS => ?_) ?_
                 rotate_left
                 · (have fx := hS.facts; simp only [factsOf, cellsOf, Nat.zero_add, Nat.reduceAdd] at fx; clear hS; go_simp; first | done | with_reducible rfl)
                 try simp only [Act.put, List.setIfInBounds_toArray, List.set_cons_zero, List.set_cons_succ]))
            refine wpSeq_nil (fun W hS => ?_)
            go_wp2
            go_ret
            exact ⟨congrArg (fun b => Ending.returned (.bool b)) HP1.out.symm, hS.bel⟩
        · have HP1 := Lib.hid (show res = false from by rw [HP.out, decide_eq_true hc3, decide_eq_false hc4]; rfl)
          refine wp_region_in_plain_all hI ?_
          repeat (first
            | (refine wpSeq_off (by rfl) ?_; try simp only [Act.put, List.setIfInBounds_toArray, List.set_cons_zero, List.set_cons_succ])
            | (refine wpSeq_val (v := ?_) (by rfl) (fun W hS => ?_) ?_
               rotate_left
               · (have fx := hS.facts; simp only [factsOf, cellsOf, Nat.zero_add, Nat.reduceAdd] at fx; clear hS; go_simp; first | done | with_reducible rfl)
               try simp only [Act.put, List.setIfInBounds_toArray, List.set_cons_zero, List.set_cons_succ]))
          refine wpSeq_call (v := .bool true) (by rfl) (fun W hS => ?_) (fun W hS => (V1.out W hS.bel)) ?_
          · (clear hS; go_simp; done)
          try simp only [Act.put, List.setIfInBounds_toArray, List.set_cons_zero, List.set_cons_succ]
          repeat (first
            | (refine wpSeq_off (by rfl) ?_; try simp only [Act.put, List.setIfInBounds_toArray, List.set_cons_zero, List.set_cons_succ])
            | (refine wpSeq_val (v := ?_) (by rfl) (fun W hS => ?_) ?_
               rotate_left
               · (have fx := hS.facts; simp only [factsOf, cellsOf, Nat.zero_add, Nat.reduceAdd] at fx; clear hS; go_simp; first | done | with_reducible rfl)
               try simp only [Act.put, List.setIfInBounds_toArray, List.set_cons_zero, List.set_cons_succ]))
          refine wpSeq_call (v := .bool true) (by rfl) (fun W hS => ?_) (fun W hS => (V2.out W hS.bel)) ?_
          · (clear hS; go_simp; done)
          try simp only [Act.put, List.setIfInBounds_toArray, List.set_cons_zero, List.set_cons_succ]
          repeat (first
            | (refine wpSeq_off (by rfl) ?_; try simp only [Act.put, List.setIfInBounds_toArray, List.set_cons_zero, List.set_cons_succ])
            | (refine wpSeq_val (v := ?_) (by rfl) (fun W hS => ?_) ?_
               rotate_left
               · (have fx := hS.facts; simp only [factsOf, cellsOf, Nat.zero_add, Nat.reduceAdd] at fx; clear hS; go_simp; first | done | with_reducible rfl)
               try simp only [Act.put, List.setIfInBounds_toArray, List.set_cons_zero, List.set_cons_succ]))
          refine wpSeq_call (v := .int .i64 c1) (by rfl) (fun W hS => ?_) (fun W hS => (C1.out W hS.bel)) ?_
          · (clear hS; go_simp; done)
          try simp only [Act.put, List.setIfInBounds_toArray, List.set_cons_zero, List.set_cons_succ]
          repeat (first
            | (refine wpSeq_off (by rfl) ?_; try simp only [Act.put, List.setIfInBounds_toArray, List.set_cons_zero, List.set_cons_succ])
            | (refine wpSeq_val (v := ?_) (by rfl) (fun W hS => ?_) ?_
               rotate_left
               · (have fx := hS.facts; simp only [factsOf, cellsOf, Nat.zero_add, Nat.reduceAdd] at fx; clear hS; go_simp; first | done | with_reducible rfl)
               try simp only [Act.put, List.setIfInBounds_toArray, List.set_cons_zero, List.set_cons_succ]))
          refine wpSeq_call (v := .int .i64 c2) (by rfl) (fun W hS => ?_) (fun W hS => (C2.out W hS.bel)) ?_
          · (clear hS; go_simp; done)
          try simp only [Act.put, List.setIfInBounds_toArray, List.set_cons_zero, List.set_cons_succ]
          repeat (first
            | (refine wpSeq_off (by rfl) ?_; try simp only [Act.put, List.setIfInBounds_toArray, List.set_cons_zero, List.set_cons_succ])
            | (refine wpSeq_val (v := ?_) (by rfl) (fun W hS => ?_) ?_
               rotate_left
               · (have fx := hS.facts; simp only [factsOf, cellsOf, Nat.zero_add, Nat.reduceAdd] at fx; clear hS; go_simp; first | done | with_reducible rfl)
               try simp only [Act.put, List.setIfInBounds_toArray, List.set_cons_zero, List.set_cons_succ]))
          refine wpSeq_nil (fun W hS => ?_)
          go_wp2
          go_ret
          exact ⟨congrArg (fun b => Ending.returned (.bool b)) HP1.out.symm, hS.bel⟩
      · have HP1 := Lib.hid (show res = false from by rw [HP.out, decide_eq_false hc3]; rfl)
        refine wp_region_in_plain_all hI ?_
        repeat (first
          | (refine wpSeq_off (by rfl) ?_; try simp only [Act.put, List.setIfInBounds_toArray, List.set_cons_zero, List.set_cons_succ])
          | (refine wpSeq_val (v := ?_) (by rfl) (fun W hS => ?_) ?_
             rotate_left
             · (have fx := hS.facts; simp only [factsOf, cellsOf, Nat.zero_add, Nat.reduceAdd] at fx; clear hS; go_simp; first | done | with_reducible rfl)
             try simp only [Act.put, List.setIfInBounds_toArray, List.set_cons_zero, List.set_cons_succ]))
        refine wpSeq_call (v := .bool true) (by rfl) (fun W hS => ?_) (fun W hS => (V1.out W hS.bel)) ?_
        · (clear hS; go_simp; done)
        try simp only [Act.put, List.setIfInBounds_toArray, List.set_cons_zero, List.set_cons_succ]
        repeat (first
          | (refine wpSeq_off (by rfl) ?_; try simp only [Act.put, List.setIfInBounds_toArray, List.set_cons_zero, List.set_cons_succ])
          | (refine wpSeq_val (v := ?_) (by rfl) (fun W hS => ?_) ?_
             rotate_left
             · (have fx := hS.facts; simp only [factsOf, cellsOf, Nat.zero_add, Nat.reduceAdd] at fx; clear hS; go_simp; first | done | with_reducible rfl)
             try simp only [Act.put, List.setIfInBounds_toArray, List.set_cons_zero, List.set_cons_succ]))
        refine wpSeq_call (v := .bool true) (by rfl) (fun W hS => ?_) (fun W hS => (V2.out W hS.bel)) ?_
        · (clear hS; go_simp; done)
        try simp only [Act.put, List.setIfInBounds_toArray, List.set_cons_zero, List.set_cons_succ]
        repeat (first
          | (refine wpSeq_off (by rfl) ?_; try simp only [Act.put, List.setIfInBounds_toArray, List.set_cons_zero, List.set_cons_succ])
          | (refine wpSeq_val (v := ?_) (by rfl) (fun W hS => ?_) ?_
             rotate_left
             · (have fx := hS.facts; simp only [factsOf, cellsOf, Nat.zero_add, Nat.reduceAdd] at fx; clear hS; go_simp; first | done | with_reducible rfl)
             try simp only [Act.put, List.setIfInBounds_toArray, List.set_cons_zero, List.set_cons_succ]))
        refine wpSeq_call (v := .int .i64 c1) (by rfl) (fun W hS => ?_) (fun W hS => (C1.out W hS.bel)) ?_
        · (clear hS; go_simp; done)
        try simp only [Act.put, List.setIfInBounds_toArray, List.set_cons_zero, List.set_cons_succ]
        repeat (first
          | (refine wpSeq_off (by rfl) ?_; try simp only [Act.put, List.setIfInBounds_toArray, List.set_cons_zero, List.set_cons_succ])
          | (refine wpSeq_val (v := ?_) (by rfl) (fun W hS => ?_) ?_
             rotate_left
             · (have fx := hS.facts; simp only [factsOf, cellsOf, Nat.zero_add, Nat.reduceAdd] at fx; clear hS; go_simp; first | done | with_reducible rfl)
             try simp only [Act.put, List.setIfInBounds_toArray, List.set_cons_zero, List.set_cons_succ]))
        refine wpSeq_nil (fun W hS => ?_)
        go_wp2
        go_ret
        exact ⟨congrArg (fun b => Ending.returned (.bool b)) HP1.out.symm, hS.bel⟩
    · have HP1 := Lib.hid (show res = false from by rw [HP.out]; rfl)
      refine wp_region_in_plain_all hI ?_
      repeat (first
        | (refine wpSeq_off (by rfl) ?_; try simp only [Act.put, List.setIfInBounds_toArray, List.set_cons_zero, List.set_cons_succ])
        | (refine wpSeq_val (v := ?_) (by rfl) (fun W hS => ?_) ?_
           rotate_left
           · (have fx := hS.facts; simp only [factsOf, cellsOf, Nat.zero_add, Nat.reduceAdd] at fx; clear hS; go_simp; first | done | with_reducible rfl)
           try simp only [Act.put, List.setIfInBounds_toArray, List.set_cons_zero, List.set_cons_succ]))
      refine wpSeq_call (v := .bool true) (by rfl) (fun W hS => ?_) (fun W hS => (V1.out W hS.bel)) ?_
      · (clear hS; go_simp; done)
      try simp only [Act.put, List.setIfInBounds_toArray, List.set_cons_zero, List.set_cons_succ]
      repeat (first
        | (refine wpSeq_off (by rfl) ?_; try simp only [Act.put, List.setIfInBounds_toArray, List.set_cons_zero, List.set_cons_succ])
        | (refine wpSeq_val (v := ?_) (by rfl) (fun W hS => ?_) ?_
           rotate_left
           · (have fx := hS.facts; simp only [factsOf, cellsOf, Nat.zero_add, Nat.reduceAdd] at fx; clear hS; go_simp; first | done | with_reducible rfl)
           try simp only [Act.put, List.setIfInBounds_toArray, List.set_cons_zero, List.set_cons_succ]))
      refine wpSeq_call (v := .bool false) (by rfl) (fun W hS => ?_) (fun W hS => (V2.out W hS.bel)) ?_
      · (clear hS; go_simp; done)
      try simp only [Act.put, List.setIfInBounds_toArray, List.set_cons_zero, List.set_cons_succ]
      repeat (first
        | (refine wpSeq_off (by rfl) ?_; try simp only [Act.put, List.setIfInBounds_toArray, List.set_cons_zero, List.set_cons_succ])
        | (refine wpSeq_val (v := ?_) (by rfl) (fun W hS => ?_) ?_
           rotate_left
           · (have fx := hS.facts; simp only [factsOf, cellsOf, Nat.zero_add, Nat.reduceAdd] at fx; clear hS; go_simp; first | done | with_reducible rfl)
           try simp only [Act.put, List.setIfInBounds_toArray, List.set_cons_zero, List.set_cons_succ]))
      refine wpSeq_nil (fun W hS => ?_)
      go_wp2
      go_ret
      exact ⟨congrArg (fun b => Ending.returned (.bool b)) HP1.out.symm, hS.bel⟩
  · have HP1 := Lib.hid (show res = false from by rw [HP.out]; rfl)
    refine wp_region_in_plain_all hI ?_
    repeat (first
      | (refine wpSeq_off (by rfl) ?_; try simp only [Act.put, List.setIfInBounds_toArray, List.set_cons_zero, List.set_cons_succ])
      | (refine wpSeq_val (v := ?_) (by rfl) (fun W hS => ?_) ?_
         rotate_left
         · (have fx := hS.facts; simp only [factsOf, cellsOf, Nat.zero_add, Nat.reduceAdd] at fx; clear hS; go_simp; first | done | with_reducible rfl)
         try simp only [Act.put, List.setIfInBounds_toArray, List.set_cons_zero, List.set_cons_succ]))
    refine wpSeq_call (v := .bool false) (by rfl) (fun W hS => ?_) (fun W hS => (V1.out W hS.bel)) ?_
    · (clear hS; go_simp; done)
    try simp only [Act.put, List.setIfInBounds_toArray, List.set_cons_zero, List.set_cons_succ]
    repeat (first
      | (refine wpSeq_off (by rfl) ?_; try simp only [Act.put, List.setIfInBounds_toArray, List.set_cons_zero, List.set_cons_succ])
      | (refine wpSeq_val (v := ?_) (by rfl) (fun W hS => ?_) ?_
         rotate_left
         · (have fx := hS.facts; simp only [factsOf, cellsOf, Nat.zero_add, Nat.reduceAdd] at fx; clear hS; go_simp; first | done | with_reducible rfl)
         try simp only [Act.put, List.setIfInBounds_toArray, List.set_cons_zero, List.set_cons_succ]))
    refine wpSeq_nil (fun W hS => ?_)
    go_wp2
    go_ret
    exact ⟨congrArg (fun b => Ending.returned (.bool b)) HP1.out.symm, hS.bel⟩
/-- zone.Touch: a walk of f reaches the box -/
def tchB (p q f : Rat) (y : B4) : Bool := validB y && (decide (p - f ≤ y.c.q) && (decide (y.a.q ≤ p + f) && (decide (q - f ≤ y.d.q) && decide (y.b.q ≤ q + f))))
theorem tchB_iff {p q f : Rat} {y : B4} : tchB p q f y = true ↔ validB y = true ∧ p - f ≤ y.c.q ∧ y.a.q ≤ p + f ∧ q - f ≤ y.d.q ∧ y.b.q ≤ q + f := by
  unfold tchB; simp
theorem tchB_mono {p q f f' : Rat} {y : B4} (hf : f ≤ f') (h : tchB p q f y = true) : tchB p q f' y = true := by
  rw [tchB_iff] at h ⊢
  obtain ⟨h0, h1, h2, h3, h4⟩ := h
  refine ⟨h0, ?_, ?_, ?_, ?_⟩ <;> grind
theorem farV_mono {x : Rat} {t t' : Int} (h : t ≤ t') : farV x t ≤ farV x t' := by
  unfold farV
  refine Rat.mul_le_mul_of_nonneg_left ?_ (maxQ_nonneg x)
  exact_mod_cast (by omega : max t 0 ≤ max t' 0)
set_option maxRecDepth 100000 in
set_option maxHeartbeats 4000000 in
theorem touchR (w : World) (hT : TabW w) (p q x : Q3) (y : B4) {N M : Nat} (hp : p.le N) (hq : q.le N) (hx : x.le M) (hy : y.le 1099511627776) (t : Int) (ht : -9223372036854775808 ≤ t ∧ t ≤ 9223372036854775807) (hN : 1 ≤ N ∧ N ≤ 274877906944 ∧ 8 ≤ M ∧ M ≤ 137438953472 := by omega) :
    Hid (∀ W, Below w.heap.size w W → Calls Tryd.prog 50 #[.agg #[.bool p.neg, .string p.num, .string p.den, .bool q.neg, .string q.num, .string q.den], .agg #[.bool x.neg, .string x.num, .string x.den], .int .i64 t, .agg #[.bool y.a.neg, .string y.a.num, .string y.a.den, .bool y.b.neg, .string y.b.num, .string y.b.den, .bool y.c.neg, .string y.c.num, .string y.c.den, .bool y.d.neg, .string y.d.num, .string y.d.den]] W fun r w' => r = .returned (.bool (tchB p.q q.q (farV x.q t) y)) ∧ Below W.heap.size W w') := by
  obtain ⟨e, f, g, h, qe, qf, qg, qh, _, hl, RE⟩ := reachR w hT p q x hp hq hx t ht
  have BX := boxesR w hT ⟨e, f, g, h⟩ y ⟨hl.1.more (by omega), hl.2.1.more (by omega), hl.2.2.1.more (by omega), hl.2.2.2.more (by omega)⟩ hy
  have h0 := farV_nonneg x.q t
  have hres : boxesB ⟨e, f, g, h⟩ y = tchB p.q q.q (farV x.q t) y := by
    unfold boxesB tchB
    rw [show validB ⟨e, f, g, h⟩ = true from by
      unfold validB
      simp only
      rw [qe, qf, qg, qh, decide_eq_true (by grind), decide_eq_true (by grind)]; rfl]
    simp only [Bool.true_and]
    rw [qe, qf, qg, qh]
  rw [hres] at BX
  refine Lib.hid fun W0 hW0 => ?_
  replace RE := up RE hW0
  replace BX := up BX hW0
  have hI := (((In.start W0).alloc 58 #[.bool p.neg, .string p.num, .string p.den, .bool q.neg, .string q.num, .string q.den]).alloc 27 #[.bool x.neg, .string x.num, .string x.den]).alloc 64 #[.bool y.a.neg, .string y.a.num, .string y.a.den, .bool y.b.neg, .string y.b.num, .string y.b.den, .bool y.c.neg, .string y.c.num, .string y.c.den, .bool y.d.neg, .string y.d.num, .string y.d.den]
  rw [World.size_alloc, World.size_alloc] at hI
  obtain ⟨res, hr⟩ : ∃ res, res = tchB p.q q.q (farV x.q t) y := ⟨_, rfl⟩
  rw [← hr] at BX ⊢
  clear qe qf qg qh hl h0 hres hr hT hW0
  go_enter Tryd.func50, Tryd.ntmps50
  go_upto_region 1 with (fail)
  generalize World.alloc _ _ = W1 at hI ⊢
  refine wp_region_in hI (by kernel_rfl) (by kernel_rfl) ?_
  repeat (first
    | (refine wpSeq_off (by rfl) ?_; try simp only [Act.put, List.setIfInBounds_toArray, List.set_cons_zero, List.set_cons_succ])
    | (refine wpSeq_val (v := ?_) (by rfl) (fun W hS => ?_) ?_
       rotate_left
       · (have fx := hS.facts; simp only [factsOf, cellsOf, Nat.zero_add, Nat.reduceAdd] at fx; clear hS; go_simp; first | done | with_reducible rfl)
       try simp only [Act.put, List.setIfInBounds_toArray, List.set_cons_zero, List.set_cons_succ]))
  refine wpSeq_call (v := .agg #[.bool e.neg, .string e.num, .string e.den, .bool f.neg, .string f.num, .string f.den, .bool g.neg, .string g.num, .string g.den, .bool h.neg, .string h.num, .string h.den]) (by rfl) (fun W hS => ?_) (fun W hS => (RE.out W hS.bel)) ?_
  · (clear hS; go_simp; done)
  try simp only [Act.put, List.setIfInBounds_toArray, List.set_cons_zero, List.set_cons_succ]
  repeat (first
    | (refine wpSeq_off (by rfl) ?_; try simp only [Act.put, List.setIfInBounds_toArray, List.set_cons_zero, List.set_cons_succ])
    | (refine wpSeq_val (v := ?_) (by rfl) (fun W hS => ?_) ?_
       rotate_left
       · (have fx := hS.facts; simp only [factsOf, cellsOf, Nat.zero_add, Nat.reduceAdd] at fx; clear hS; go_simp; first | done | with_reducible rfl)
       try simp only [Act.put, List.setIfInBounds_toArray, List.set_cons_zero, List.set_cons_succ]))
  refine wpSeq_call (v := .bool res) (by rfl) (fun W hS => ?_) (fun W hS => (BX.out W hS.bel)) ?_
  · (clear hS; go_simp; done)
  try simp only [Act.put, List.setIfInBounds_toArray, List.set_cons_zero, List.set_cons_succ]
  repeat (first
    | (refine wpSeq_off (by rfl) ?_; try simp only [Act.put, List.setIfInBounds_toArray, List.set_cons_zero, List.set_cons_succ])
    | (refine wpSeq_val (v := ?_) (by rfl) (fun W hS => ?_) ?_
       rotate_left
       · (have fx := hS.facts; simp only [factsOf, cellsOf, Nat.zero_add, Nat.reduceAdd] at fx; clear hS; go_simp; first | done | with_reducible rfl)
       try simp only [Act.put, List.setIfInBounds_toArray, List.set_cons_zero, List.set_cons_succ]))
  refine wpSeq_nil (fun W hS => ?_)
  go_wp2
  go_ret
  exact ⟨rfl, hS.bel⟩
end Go.Proofs.YthmgcbpmfipfiaaDoor
