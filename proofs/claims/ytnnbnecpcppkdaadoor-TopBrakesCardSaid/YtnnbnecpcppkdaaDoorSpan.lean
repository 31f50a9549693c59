/- span.Good, span.fit, span.Has at spans in order. Conditions: those typed. -/
import Derived.Test.YtnnbnecpcppkdaaDoorMakeQ
import Derived.Test.YtnnbnecpcppkdaaDoorSeqIn
namespace Go.Proofs.YtnnbnecpcppkdaaDoor
open Go.RowKit Go.Gy
set_option linter.unusedVariables false
theorem Q3.can.good {x : Q3} (h : x.can) : GoodR x.neg x.num x.den := by
  rw [h]
  exact parts_good _
set_option maxRecDepth 100000 in
set_option maxHeartbeats 4000000 in
theorem spanGood (w : World) (hT : TabW w) (lo hi : Q3) (cl : lo.can) (ch : hi.can) {N : Nat} (ll : lo.le N) (lh : hi.le N) (h : lo.q ≤ hi.q) (hN : 1 ≤ N ∧ N ≤ 274877906944 := by omega) :
    Hid (∀ W, Below w.heap.size w W → Calls Tryd.prog 112 #[.agg #[.bool lo.neg, .string lo.num, .string lo.den, .bool hi.neg, .string hi.num, .string hi.den]] W fun r w' => r = .returned (.bool true) ∧ Below W.heap.size W w') := by
  refine Lib.hid fun W0 hW0 => ?_
  have hT0 := tabs w hT hW0
  have G1 := Lib.hid (fun W (hW : Below W0.heap.size W0 W) => good_any W lo.neg lo.num lo.den (by have := ll.1; omega) (by have := ll.2; omega) (tabs W0 hT0 hW))
  have G2 := Lib.hid (fun W (hW : Below W0.heap.size W0 W) => good_any W hi.neg hi.num hi.den (by have := lh.1; omega) (by have := lh.2; omega) (tabs W0 hT0 hW))
  rw [decide_eq_true cl.good] at G1
  rw [decide_eq_true ch.good] at G2
  obtain ⟨c, _, p, _, C1⟩ := cmpR W0 hT0 lo hi ll lh
  have hc : c ≤ 0 := Decidable.by_contra fun hc => by have := p.mp (by omega); grind
  have hI := (In.start W0).alloc 68 #[.bool lo.neg, .string lo.num, .string lo.den, .bool hi.neg, .string hi.num, .string hi.den]
  clear p hT hT0 hW0 h
  go_enter Tryd.func112, Tryd.ntmps112
  go_upto_region 1 with (fail)
  generalize World.alloc _ _ = W1 at hI ⊢
  refine wp_region_in_plain_all hI ?_
  repeat (first
    | (refine wpSeq_off (by rfl) ?_; try simp only [Act.put, List.setIfInBounds_toArray, List.set_cons_zero, List.set_cons_succ])
    | (refine wpSeq_val (v := ?_) (by rfl) (fun W hS => ?_) ?_
       rotate_left
       · (have fx := hS.facts; simp only [factsOf, cellsOf, Nat.zero_add, Nat.reduceAdd] at fx; clear hS; go_simp; first | done | with_reducible rfl)
       try simp only [Act.put, List.setIfInBounds_toArray, List.set_cons_zero, List.set_cons_succ]))
  refine wpSeq_call (v := .bool true) (by rfl) (fun W hS => ?_) (fun W hS => (G1.out W hS.bel)) ?_
  · (clear hS; go_simp; done)
  try simp only [Act.put, List.setIfInBounds_toArray, List.set_cons_zero, List.set_cons_succ]
  repeat (first
    | (refine wpSeq_off (by rfl) ?_; try simp only [Act.put, List.setIfInBounds_toArray, List.set_cons_zero, List.set_cons_succ])
    | (refine wpSeq_val (v := ?_) (by rfl) (fun W hS => ?_) ?_
       rotate_left
       · (have fx := hS.facts; simp only [factsOf, cellsOf, Nat.zero_add, Nat.reduceAdd] at fx; clear hS; go_simp; first | done | with_reducible rfl)
       try simp only [Act.put, List.setIfInBounds_toArray, List.set_cons_zero, List.set_cons_succ]))
  refine wpSeq_call (v := .bool true) (by rfl) (fun W hS => ?_) (fun W hS => (G2.out W hS.bel)) ?_
  · (clear hS; go_simp; done)
  try simp only [Act.put, List.setIfInBounds_toArray, List.set_cons_zero, List.set_cons_succ]
  repeat (first
    | (refine wpSeq_off (by rfl) ?_; try simp only [Act.put, List.setIfInBounds_toArray, List.set_cons_zero, List.set_cons_succ])
    | (refine wpSeq_val (v := ?_) (by rfl) (fun W hS => ?_) ?_
       rotate_left
       · (have fx := hS.facts; simp only [factsOf, cellsOf, Nat.zero_add, Nat.reduceAdd] at fx; clear hS; go_simp; first | done | with_reducible rfl)
       try simp only [Act.put, List.setIfInBounds_toArray, List.set_cons_zero, List.set_cons_succ]))
  refine wpSeq_call (v := .int .i64 c) (by rfl) (fun W hS => ?_) (fun W hS => (C1.out W hS.bel)) ?_
  · (clear hS; go_simp; done)
  try simp only [Act.put, List.setIfInBounds_toArray, List.set_cons_zero, List.set_cons_succ]
  repeat (first
    | (refine wpSeq_off (by rfl) ?_; try simp only [Act.put, List.setIfInBounds_toArray, List.set_cons_zero, List.set_cons_succ])
    | (refine wpSeq_val (v := ?_) (by rfl) (fun W hS => ?_) ?_
       rotate_left
       · (have fx := hS.facts; simp only [factsOf, cellsOf, Nat.zero_add, Nat.reduceAdd] at fx; clear hS; go_simp; first | done | with_reducible rfl)
       try simp only [Act.put, List.setIfInBounds_toArray, List.set_cons_zero, List.set_cons_succ]))
  refine wpSeq_nil (fun W hS => ?_)
  go_wp2
  go_ret
  exact ⟨rfl, hS.bel⟩
set_option maxRecDepth 100000 in
set_option maxHeartbeats 4000000 in
theorem spanFit (w : World) (hT : TabW w) (lo hi : Q3) (cl : lo.can) (ch : hi.can) {N : Nat} (ll : lo.le N) (lh : hi.le N) (h : lo.q ≤ hi.q) (hN : 1 ≤ N ∧ N ≤ 274877906944 := by omega) :
    Hid (∀ W, Below w.heap.size w W → Calls Tryd.prog 75 #[.agg #[.bool lo.neg, .string lo.num, .string lo.den, .bool hi.neg, .string hi.num, .string hi.den]] W fun r w' => r = .returned (.agg #[.bool lo.neg, .string lo.num, .string lo.den, .bool hi.neg, .string hi.num, .string hi.den]) ∧ Below W.heap.size W w') := by
  have SG := spanGood w hT lo hi cl ch ll lh h
  refine Lib.hid fun W0 hW0 => ?_
  replace SG := up SG hW0
  have hI := ((In.start W0).alloc 68 #[.bool lo.neg, .string lo.num, .string lo.den, .bool hi.neg, .string hi.num, .string hi.den]).alloc 68 #[.bool false, .string { data := #[] }, .string { data := #[] }, .bool false, .string { data := #[] }, .string { data := #[] }]
  rw [World.size_alloc] at hI
  clear hT hW0 h
  go_enter Tryd.func75, Tryd.ntmps75
  go_upto_region 1 with (fail)
  generalize World.alloc _ _ = W1 at hI ⊢
  have fx := hI.facts
  simp only [factsOf, cellsOf, Nat.zero_add, Nat.reduceAdd] at fx
  go_wp2_with fail
  refine (SG.out _ hI.bel).mono ?_
  rintro e wn ⟨rfl, hb⟩
  replace hI := hI.call hb
  clear hb
  clear fx
  have hI2 := hI.tail
  have fx := hI2.facts
  simp only [factsOf, cellsOf, Nat.zero_add, Nat.reduceAdd] at fx
  have hS0 := hI.take (a := [_])
  have HK := Lib.hid ((hI.all6 (a := []) (.bool lo.neg) (.string lo.num) (.string lo.den) (.bool hi.neg) (.string hi.num) (.string hi.den)))
  have hfx := hS0.facts
  simp only [factsOf, cellsOf, Nat.zero_add, Nat.reduceAdd] at hfx
  have hfz := fun i => hS0.free (k := 0) (i := i) rfl
  clear hS0 hI
  go_wp2_with fail
  clear hfx hfz
  have hK := HK.out
  clear HK
  generalize World.setCell _ _ _ = W9 at hK ⊢
  refine bodyPost_ret (results_cell_row Tryd.results75 _ _ (W0.heap.size + 1 ) 68 _ (0, 0) _ rfl (hK.blkAt (k := 0) rfl) Tryd.underlying68 rfl (by kernel_rfl)) rfl ?_
  exact ⟨rfl, hK.bel⟩
set_option maxRecDepth 100000 in
set_option maxHeartbeats 4000000 in
theorem hasT (w : World) (hT : TabW w) (lo hi a : Q3) (cl : lo.can) (ch : hi.can) {N : Nat} (ll : lo.le N) (lh : hi.le N) (la : a.le N) (h1 : lo.q ≤ a.q) (h2 : a.q ≤ hi.q) (hN : 1 ≤ N ∧ N ≤ 274877906944 := by omega) :
    Hid (∀ W, Below w.heap.size w W → Calls Tryd.prog 36 #[.agg #[.bool lo.neg, .string lo.num, .string lo.den, .bool hi.neg, .string hi.num, .string hi.den], .agg #[.bool a.neg, .string a.num, .string a.den]] W fun r w' => r = .returned (.bool true) ∧ Below W.heap.size W w') := by
  have SF := spanFit w hT lo hi cl ch ll lh (Rat.le_trans h1 h2)
  obtain ⟨c1, _, p1, _, C1⟩ := cmpR w hT lo a ll la
  obtain ⟨c2, _, p2, _, C2⟩ := cmpR w hT a hi la lh
  have hc1 : c1 ≤ 0 := Decidable.by_contra fun hc => by have := p1.mp (by omega); grind
  have hc2 : c2 ≤ 0 := Decidable.by_contra fun hc => by have := p2.mp (by omega); grind
  refine Lib.hid fun W0 hW0 => ?_
  replace SF := up SF hW0
  replace C1 := up C1 hW0
  replace C2 := up C2 hW0
  have hI := ((In.start W0).alloc 68 #[.bool lo.neg, .string lo.num, .string lo.den, .bool hi.neg, .string hi.num, .string hi.den]).alloc 25 #[.bool a.neg, .string a.num, .string a.den]
  rw [World.size_alloc] at hI
  clear hT hW0 h1 h2 p1 p2
  go_enter Tryd.func36, Tryd.ntmps36
  go_upto_region 1 with (fail)
  generalize World.alloc _ _ = W1 at hI ⊢
  have fx := hI.facts
  simp only [factsOf, cellsOf, Nat.zero_add, Nat.reduceAdd] at fx
  go_wp2_with fail
  refine (SF.out _ hI.bel).mono ?_
  rintro e wn ⟨rfl, hb⟩
  replace hI := hI.call hb
  clear hb
  clear fx
  have hS1 := (hI.drop (a := [_])).take (a := [_]) (b := [])
  have fx := hS1.facts
  simp only [factsOf, cellsOf, Nat.zero_add, Nat.reduceAdd] at fx
  have hz := fun i => hS1.free (k := 0) (i := i) rfl
  have HX := Lib.hid (hI.all6 (a := [_]) (.bool lo.neg) (.string lo.num) (.string lo.den) (.bool hi.neg) (.string hi.num) (.string hi.den))
  clear hS1 hI
  go_upto_region 2 with (fail)
  have hI : In W0 [_, _] _ := HX.out
  clear HX fx hz
  generalize World.setCell _ _ _ = W4 at hI ⊢
  refine wp_region_in_plain_all hI ?_
  repeat (first
    | (refine wpSeq_off (by rfl) ?_; try simp only [Act.put, List.setIfInBounds_toArray, List.set_cons_zero, List.set_cons_succ])
    | (refine wpSeq_val (v := ?_) (by rfl) (fun W hS => ?_) ?_
       rotate_left
       · (have fx := hS.facts; simp only [factsOf, cellsOf, Nat.zero_add, Nat.reduceAdd] at fx; clear hS; go_simp; first | done | with_reducible rfl)
       try simp only [Act.put, List.setIfInBounds_toArray, List.set_cons_zero, List.set_cons_succ]))
  refine wpSeq_call (v := .int .i64 c1) (by rfl) (fun W hS => ?_) (fun W hS => (C1.out W hS.bel)) ?_
  · (clear hS; go_simp; done)
  try simp only [Act.put, List.setIfInBounds_toArray, List.set_cons_zero, List.set_cons_succ]
  repeat (first
    | (refine wpSeq_off (by rfl) ?_; try simp only [Act.put, List.setIfInBounds_toArray, List.set_cons_zero, List.set_cons_succ])
    | (refine wpSeq_val (v := ?_) (by rfl) (fun W hS => ?_) ?_
       rotate_left
       · (have fx := hS.facts; simp only [factsOf, cellsOf, Nat.zero_add, Nat.reduceAdd] at fx; clear hS; go_simp; first | done | with_reducible rfl)
       try simp only [Act.put, List.setIfInBounds_toArray, List.set_cons_zero, List.set_cons_succ]))
  refine wpSeq_call (v := .int .i64 c2) (by rfl) (fun W hS => ?_) (fun W hS => (C2.out W hS.bel)) ?_
  · (clear hS; go_simp; done)
  try simp only [Act.put, List.setIfInBounds_toArray, List.set_cons_zero, List.set_cons_succ]
  repeat (first
    | (refine wpSeq_off (by rfl) ?_; try simp only [Act.put, List.setIfInBounds_toArray, List.set_cons_zero, List.set_cons_succ])
    | (refine wpSeq_val (v := ?_) (by rfl) (fun W hS => ?_) ?_
       rotate_left
       · (have fx := hS.facts; simp only [factsOf, cellsOf, Nat.zero_add, Nat.reduceAdd] at fx; clear hS; go_simp; first | done | with_reducible rfl)
       try simp only [Act.put, List.setIfInBounds_toArray, List.set_cons_zero, List.set_cons_succ]))
  refine wpSeq_nil (fun W hS => ?_)
  go_wp2
  go_ret
  exact ⟨rfl, hS.bel⟩
end Go.Proofs.YtnnbnecpcppkdaaDoor
