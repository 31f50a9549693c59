/- vec.Add, vec.Sub, vec.Cross, poly.left. Conditions: those typed. -/
import Derived.Test.YtnnbnecpcppkdaaDoorPts
import Derived.Test.YtnnbnecpcppkdaaDoorSeqIn
namespace Go.Proofs.YtnnbnecpcppkdaaDoor
open Go.RowKit Go.Gy
set_option linter.unusedVariables false
/-- both parts in lowest terms -/
def P2.can (p : P2) : Prop := p.x.can ∧ p.y.can
set_option maxRecDepth 100000 in
set_option maxHeartbeats 4000000 in
theorem subV (w : World) (hT : TabW w) (a b : P2) {N M : Nat} (ha : a.le N) (hb : b.le M) (hN : 1 ≤ N ∧ N ≤ 1099511627776 ∧ 1 ≤ M ∧ M ≤ 1099511627776 := by omega) :
    ∃ z : P2, z.x.q = a.x.q - b.x.q ∧ z.y.q = a.y.q - b.y.q ∧ z.can ∧ z.le (N + M + 1) ∧ Hid (∀ W, Below w.heap.size w W → Calls Tryd.prog 144 #[.agg #[.bool a.x.neg, .string a.x.num, .string a.x.den, .bool a.y.neg, .string a.y.num, .string a.y.den], .agg #[.bool b.x.neg, .string b.x.num, .string b.x.den, .bool b.y.neg, .string b.y.num, .string b.y.den]] W fun e w' => e = .returned (.agg #[.bool z.x.neg, .string z.x.num, .string z.x.den, .bool z.y.neg, .string z.y.num, .string z.y.den]) ∧ Below W.heap.size W w') := by
  obtain ⟨x, qx, cx, lx, SX⟩ := subR w hT a.x b.x ha.1 hb.1
  obtain ⟨y, qy, cy, ly, SY⟩ := subR w hT a.y b.y ha.2 hb.2
  refine ⟨⟨x, y⟩, qx, qy, ⟨cx, cy⟩, ⟨lx, ly⟩, Lib.hid fun W0 hW0 => ?_⟩
  replace SX := up SX hW0
  replace SY := up SY hW0
  have hI := (((In.start W0).alloc 30 #[.bool a.x.neg, .string a.x.num, .string a.x.den, .bool a.y.neg, .string a.y.num, .string a.y.den]).alloc 30 #[.bool b.x.neg, .string b.x.num, .string b.x.den, .bool b.y.neg, .string b.y.num, .string b.y.den]).alloc 30 #[.bool false, .string { data := #[] }, .string { data := #[] }, .bool false, .string { data := #[] }, .string { data := #[] }]
  rw [World.size_alloc, World.size_alloc] at hI
  clear qx qy cx cy hT hW0
  go_enter Tryd.func144, Tryd.ntmps144
  go_upto_region 1 with (fail)
  generalize World.alloc _ _ = W1 at hI ⊢
  refine wp_region_in_tail 11 hI (by kernel_rfl) (by kernel_rfl) ?_
  simp only [List.take_succ_cons, List.take_zero, List.drop_succ_cons, List.drop_zero]
  repeat (first
    | (refine wpSeq_off (by rfl) ?_; try simp only [Act.put, List.setIfInBounds_toArray, List.set_cons_zero, List.set_cons_succ])
    | (refine wpSeq_val (v := ?_) (by rfl) (fun W hS => ?_) ?_
       rotate_left
       · (have fx := hS.facts; simp only [factsOf, cellsOf, Nat.zero_add, Nat.reduceAdd] at fx; clear hS; go_simp; first | done | with_reducible rfl)
       try simp only [Act.put, List.setIfInBounds_toArray, List.set_cons_zero, List.set_cons_succ]))
  refine wpSeq_call (v := .agg #[.bool x.neg, .string x.num, .string x.den]) (by rfl) (fun W hS => ?_) (fun W hS => (SX.out W hS.bel)) ?_
  · (clear hS; go_simp; done)
  try simp only [Act.put, List.setIfInBounds_toArray, List.set_cons_zero, List.set_cons_succ]
  repeat (first
    | (refine wpSeq_off (by rfl) ?_; try simp only [Act.put, List.setIfInBounds_toArray, List.set_cons_zero, List.set_cons_succ])
    | (refine wpSeq_val (v := ?_) (by rfl) (fun W hS => ?_) ?_
       rotate_left
       · (have fx := hS.facts; simp only [factsOf, cellsOf, Nat.zero_add, Nat.reduceAdd] at fx; clear hS; go_simp; first | done | with_reducible rfl)
       try simp only [Act.put, List.setIfInBounds_toArray, List.set_cons_zero, List.set_cons_succ]))
  refine wpSeq_call (v := .agg #[.bool y.neg, .string y.num, .string y.den]) (by rfl) (fun W hS => ?_) (fun W hS => (SY.out W hS.bel)) ?_
  · (clear hS; go_simp; done)
  try simp only [Act.put, List.setIfInBounds_toArray, List.set_cons_zero, List.set_cons_succ]
  repeat (first
    | (refine wpSeq_off (by rfl) ?_; try simp only [Act.put, List.setIfInBounds_toArray, List.set_cons_zero, List.set_cons_succ])
    | (refine wpSeq_val (v := ?_) (by rfl) (fun W hS => ?_) ?_
       rotate_left
       · (have fx := hS.facts; simp only [factsOf, cellsOf, Nat.zero_add, Nat.reduceAdd] at fx; clear hS; go_simp; first | done | with_reducible rfl)
       try simp only [Act.put, List.setIfInBounds_toArray, List.set_cons_zero, List.set_cons_succ]))
  refine wpSeq_nil (fun W hS => ?_)
  clear hI
  have hS0 := hS.take (a := [_])
  have HK := Lib.hid ((hS.all6 (a := []) (.bool x.neg) (.string x.num) (.string x.den) (.bool y.neg) (.string y.num) (.string y.den)))
  have hfx := hS0.facts
  simp only [factsOf, cellsOf, Nat.zero_add, Nat.reduceAdd] at hfx
  have hfz := fun i => hS0.free (k := 0) (i := i) rfl
  clear hS0 hS
  go_wp2_with fail
  clear hfx hfz
  have hK := HK.out
  clear HK
  generalize World.setCell _ _ _ = W9 at hK ⊢
  refine bodyPost_ret (results_cell_row Tryd.results144 _ _ (W0.heap.size + 1 + 1 ) 30 _ (0, 0) _ rfl (hK.blkAt (k := 0) rfl) Tryd.underlying30 rfl (by kernel_rfl)) rfl ?_
  exact ⟨rfl, hK.bel⟩
set_option maxRecDepth 100000 in
set_option maxHeartbeats 4000000 in
theorem crossV (w : World) (hT : TabW w) (a b : P2) {N M : Nat} (ha : a.le N) (hb : b.le M) (hN : 1 ≤ N ∧ N ≤ 274877906944 ∧ 1 ≤ M ∧ M ≤ 274877906944 := by omega) :
    ∃ z : Q3, z.q = a.x.q * b.y.q - a.y.q * b.x.q ∧ z.can ∧ z.le (N + M + (N + M) + 1) ∧ Hid (∀ W, Below w.heap.size w W → Calls Tryd.prog 143 #[.agg #[.bool a.x.neg, .string a.x.num, .string a.x.den, .bool a.y.neg, .string a.y.num, .string a.y.den], .agg #[.bool b.x.neg, .string b.x.num, .string b.x.den, .bool b.y.neg, .string b.y.num, .string b.y.den]] W fun e w' => e = .returned (.agg #[.bool z.neg, .string z.num, .string z.den]) ∧ Below W.heap.size W w') := by
  obtain ⟨x, qx, cx, lx, SX⟩ := mulR w hT a.x b.y ha.1 hb.2
  obtain ⟨y, qy, cy, ly, SY⟩ := mulR w hT a.y b.x ha.2 hb.1
  obtain ⟨z, qz, cz, lz, SZ⟩ := subR w hT x y lx ly
  refine ⟨z, by rw [qz, qx, qy], cz, lz, Lib.hid fun W0 hW0 => ?_⟩
  replace SX := up SX hW0
  replace SY := up SY hW0
  replace SZ := up SZ hW0
  have hI := (((In.start W0).alloc 30 #[.bool a.x.neg, .string a.x.num, .string a.x.den, .bool a.y.neg, .string a.y.num, .string a.y.den]).alloc 30 #[.bool b.x.neg, .string b.x.num, .string b.x.den, .bool b.y.neg, .string b.y.num, .string b.y.den]).alloc 25 #[.bool false, .string { data := #[] }, .string { data := #[] }]
  rw [World.size_alloc, World.size_alloc] at hI
  clear qx qy qz cx cy cz hT hW0
  go_enter Tryd.func143, Tryd.ntmps143
  go_upto_region 1 with (fail)
  generalize World.alloc _ _ = W1 at hI ⊢
  refine wp_region_in_tail 11 hI (by kernel_rfl) (by kernel_rfl) ?_
  simp only [List.take_succ_cons, List.take_zero, List.drop_succ_cons, List.drop_zero]
  repeat (first
    | (refine wpSeq_off (by rfl) ?_; try simp only [Act.put, List.setIfInBounds_toArray, List.set_cons_zero, List.set_cons_succ])
    | (refine wpSeq_val (v := ?_) (by rfl) (fun W hS => ?_) ?_
       rotate_left
       · (have fx := hS.facts; simp only [factsOf, cellsOf, Nat.zero_add, Nat.reduceAdd] at fx; clear hS; go_simp; first | done | with_reducible rfl)
       try simp only [Act.put, List.setIfInBounds_toArray, List.set_cons_zero, List.set_cons_succ]))
  refine wpSeq_call (v := .agg #[.bool x.neg, .string x.num, .string x.den]) (by rfl) (fun W hS => ?_) (fun W hS => (SX.out W hS.bel)) ?_
  · (clear hS; go_simp; done)
  try simp only [Act.put, List.setIfInBounds_toArray, List.set_cons_zero, List.set_cons_succ]
  repeat (first
    | (refine wpSeq_off (by rfl) ?_; try simp only [Act.put, List.setIfInBounds_toArray, List.set_cons_zero, List.set_cons_succ])
    | (refine wpSeq_val (v := ?_) (by rfl) (fun W hS => ?_) ?_
       rotate_left
       · (have fx := hS.facts; simp only [factsOf, cellsOf, Nat.zero_add, Nat.reduceAdd] at fx; clear hS; go_simp; first | done | with_reducible rfl)
       try simp only [Act.put, List.setIfInBounds_toArray, List.set_cons_zero, List.set_cons_succ]))
  refine wpSeq_call (v := .agg #[.bool y.neg, .string y.num, .string y.den]) (by rfl) (fun W hS => ?_) (fun W hS => (SY.out W hS.bel)) ?_
  · (clear hS; go_simp; done)
  try simp only [Act.put, List.setIfInBounds_toArray, List.set_cons_zero, List.set_cons_succ]
  repeat (first
    | (refine wpSeq_off (by rfl) ?_; try simp only [Act.put, List.setIfInBounds_toArray, List.set_cons_zero, List.set_cons_succ])
    | (refine wpSeq_val (v := ?_) (by rfl) (fun W hS => ?_) ?_
       rotate_left
       · (have fx := hS.facts; simp only [factsOf, cellsOf, Nat.zero_add, Nat.reduceAdd] at fx; clear hS; go_simp; first | done | with_reducible rfl)
       try simp only [Act.put, List.setIfInBounds_toArray, List.set_cons_zero, List.set_cons_succ]))
  refine wpSeq_call (v := .agg #[.bool z.neg, .string z.num, .string z.den]) (by rfl) (fun W hS => ?_) (fun W hS => (SZ.out W hS.bel)) ?_
  · (clear hS; go_simp; done)
  try simp only [Act.put, List.setIfInBounds_toArray, List.set_cons_zero, List.set_cons_succ]
  repeat (first
    | (refine wpSeq_off (by rfl) ?_; try simp only [Act.put, List.setIfInBounds_toArray, List.set_cons_zero, List.set_cons_succ])
    | (refine wpSeq_val (v := ?_) (by rfl) (fun W hS => ?_) ?_
       rotate_left
       · (have fx := hS.facts; simp only [factsOf, cellsOf, Nat.zero_add, Nat.reduceAdd] at fx; clear hS; go_simp; first | done | with_reducible rfl)
       try simp only [Act.put, List.setIfInBounds_toArray, List.set_cons_zero, List.set_cons_succ]))
  refine wpSeq_nil (fun W hS => ?_)
  clear hI
  have hS0 := hS.take (a := [_])
  have HK := Lib.hid ((hS.all3 (a := []) (.bool z.neg) (.string z.num) (.string z.den)))
  have hfx := hS0.facts
  simp only [factsOf, cellsOf, Nat.zero_add, Nat.reduceAdd] at hfx
  have hfz := fun i => hS0.free (k := 0) (i := i) rfl
  clear hS0 hS
  go_wp2_with fail
  clear hfx hfz
  have hK := HK.out
  clear HK
  generalize World.setCell _ _ _ = W9 at hK ⊢
  refine bodyPost_ret (results_cell_row Tryd.results143 _ _ (W0.heap.size + 1 + 1 ) 25 _ (0, 0) _ rfl (hK.blkAt (k := 0) rfl) Tryd.underlying25 rfl (by kernel_rfl)) rfl ?_
  exact ⟨rfl, hK.bel⟩
/-- twice the area of a triangle -/
def areaQ (a b c : P2) : Rat := (b.x.q - a.x.q) * (c.y.q - a.y.q) - (b.y.q - a.y.q) * (c.x.q - a.x.q)
set_option maxRecDepth 100000 in
set_option maxHeartbeats 4000000 in
theorem leftR (w : World) (hT : TabW w) (a b c : P2) {N : Nat} (ha : a.le N) (hb : b.le N) (hc : c.le N) (hN : 1 ≤ N ∧ N ≤ 68719476736 := by omega) :
    ∃ s : Int, (s ≤ 0 ↔ areaQ a b c ≤ 0) ∧ Hid (∀ W, Below w.heap.size w W → Calls Tryd.prog 138 #[.agg #[.bool a.x.neg, .string a.x.num, .string a.x.den, .bool a.y.neg, .string a.y.num, .string a.y.den], .agg #[.bool b.x.neg, .string b.x.num, .string b.x.den, .bool b.y.neg, .string b.y.num, .string b.y.den], .agg #[.bool c.x.neg, .string c.x.num, .string c.x.den, .bool c.y.neg, .string c.y.num, .string c.y.den]] W fun e w' => e = .returned (.int .i64 s) ∧ Below W.heap.size W w') := by
  obtain ⟨d, dx, dy, _, ld, SD⟩ := subV w hT b a hb ha
  obtain ⟨e, ex, ey, _, le, SE⟩ := subV w hT c a hc ha
  obtain ⟨z, qz, _, lz, SZ⟩ := crossV w hT d e ld le
  obtain ⟨s, _, ps, _, SS⟩ := signR w hT z lz
  refine ⟨s, by rw [← Rat.not_lt]; unfold areaQ; rw [← dx, ← dy, ← ex, ← ey, ← qz, ← ps]; omega, Lib.hid fun W0 hW0 => ?_⟩
  replace SD := up SD hW0
  replace SE := up SE hW0
  replace SZ := up SZ hW0
  replace SS := up SS hW0
  have hI := (((In.start W0).alloc 30 #[.bool a.x.neg, .string a.x.num, .string a.x.den, .bool a.y.neg, .string a.y.num, .string a.y.den]).alloc 30 #[.bool b.x.neg, .string b.x.num, .string b.x.den, .bool b.y.neg, .string b.y.num, .string b.y.den]).alloc 30 #[.bool c.x.neg, .string c.x.num, .string c.x.den, .bool c.y.neg, .string c.y.num, .string c.y.den]
  rw [World.size_alloc, World.size_alloc] at hI
  clear dx dy ex ey qz ps hT hW0
  go_enter Tryd.func138, Tryd.ntmps138
  go_upto_region 1 with (fail)
  generalize World.alloc _ _ = W1 at hI ⊢
  refine wp_region_in hI (by kernel_rfl) (by kernel_rfl) ?_
  repeat (first
    | (refine wpSeq_off (by rfl) ?_; try simp only [Act.put, List.setIfInBounds_toArray, List.set_cons_zero, List.set_cons_succ])
    | (refine wpSeq_val (v := ?_) (by rfl) (fun W hS => ?_) ?_
       rotate_left
       · (have fx := hS.facts; simp only [factsOf, cellsOf, Nat.zero_add, Nat.reduceAdd] at fx; clear hS; go_simp; first | done | with_reducible rfl)
       try simp only [Act.put, List.setIfInBounds_toArray, List.set_cons_zero, List.set_cons_succ]))
  refine wpSeq_call (v := .agg #[.bool d.x.neg, .string d.x.num, .string d.x.den, .bool d.y.neg, .string d.y.num, .string d.y.den]) (by rfl) (fun W hS => ?_) (fun W hS => (SD.out W hS.bel)) ?_
  · (clear hS; go_simp; done)
  try simp only [Act.put, List.setIfInBounds_toArray, List.set_cons_zero, List.set_cons_succ]
  repeat (first
    | (refine wpSeq_off (by rfl) ?_; try simp only [Act.put, List.setIfInBounds_toArray, List.set_cons_zero, List.set_cons_succ])
    | (refine wpSeq_val (v := ?_) (by rfl) (fun W hS => ?_) ?_
       rotate_left
       · (have fx := hS.facts; simp only [factsOf, cellsOf, Nat.zero_add, Nat.reduceAdd] at fx; clear hS; go_simp; first | done | with_reducible rfl)
       try simp only [Act.put, List.setIfInBounds_toArray, List.set_cons_zero, List.set_cons_succ]))
  refine wpSeq_call (v := .agg #[.bool e.x.neg, .string e.x.num, .string e.x.den, .bool e.y.neg, .string e.y.num, .string e.y.den]) (by rfl) (fun W hS => ?_) (fun W hS => (SE.out W hS.bel)) ?_
  · (clear hS; go_simp; done)
  try simp only [Act.put, List.setIfInBounds_toArray, List.set_cons_zero, List.set_cons_succ]
  repeat (first
    | (refine wpSeq_off (by rfl) ?_; try simp only [Act.put, List.setIfInBounds_toArray, List.set_cons_zero, List.set_cons_succ])
    | (refine wpSeq_val (v := ?_) (by rfl) (fun W hS => ?_) ?_
       rotate_left
       · (have fx := hS.facts; simp only [factsOf, cellsOf, Nat.zero_add, Nat.reduceAdd] at fx; clear hS; go_simp; first | done | with_reducible rfl)
       try simp only [Act.put, List.setIfInBounds_toArray, List.set_cons_zero, List.set_cons_succ]))
  refine wpSeq_call (v := .agg #[.bool z.neg, .string z.num, .string z.den]) (by rfl) (fun W hS => ?_) (fun W hS => (SZ.out W hS.bel)) ?_
  · (clear hS; go_simp; done)
  try simp only [Act.put, List.setIfInBounds_toArray, List.set_cons_zero, List.set_cons_succ]
  repeat (first
    | (refine wpSeq_off (by rfl) ?_; try simp only [Act.put, List.setIfInBounds_toArray, List.set_cons_zero, List.set_cons_succ])
    | (refine wpSeq_val (v := ?_) (by rfl) (fun W hS => ?_) ?_
       rotate_left
       · (have fx := hS.facts; simp only [factsOf, cellsOf, Nat.zero_add, Nat.reduceAdd] at fx; clear hS; go_simp; first | done | with_reducible rfl)
       try simp only [Act.put, List.setIfInBounds_toArray, List.set_cons_zero, List.set_cons_succ]))
  refine wpSeq_call (v := .int .i64 s) (by rfl) (fun W hS => ?_) (fun W hS => (SS.out W hS.bel)) ?_
  · (clear hS; go_simp; done)
  try simp only [Act.put, List.setIfInBounds_toArray, List.set_cons_zero, List.set_cons_succ]
  repeat (first
    | (refine wpSeq_off (by rfl) ?_; try simp only [Act.put, List.setIfInBounds_toArray, List.set_cons_zero, List.set_cons_succ])
    | (refine wpSeq_val (v := ?_) (by rfl) (fun W hS => ?_) ?_
       rotate_left
       · (have fx := hS.facts; simp only [factsOf, cellsOf, Nat.zero_add, Nat.reduceAdd] at fx; clear hS; go_simp; first | done | with_reducible rfl)
       try simp only [Act.put, List.setIfInBounds_toArray, List.set_cons_zero, List.set_cons_succ]))
  refine wpSeq_nil (fun W hS => ?_)
  clear hI
  go_wp2
  go_ret
  exact ⟨rfl, hS.bel⟩
end Go.Proofs.YtnnbnecpcppkdaaDoor
