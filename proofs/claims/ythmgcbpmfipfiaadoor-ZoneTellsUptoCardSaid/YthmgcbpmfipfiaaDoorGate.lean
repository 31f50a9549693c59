/- zone.Gate. Conditions: those typed. -/
import Derived.Test.YthmgcbpmfipfiaaDoorZoneB
namespace Go.Proofs.YthmgcbpmfipfiaaDoor
open Go.RowKit Go.Gy
set_option linter.unusedVariables false
set_option maxRecDepth 100000 in
set_option maxHeartbeats 8000000 in
theorem gate_bad (w : World) (hT : TabW w) (nm : ByteArray) (y : B4) (x : Q3) (t : Int) (hy : y.le 1099511627776) (hb : y.c.q < y.a.q ∨ y.d.q < y.b.q) :
    Calls Tryd.prog 54 #[.agg #[.string nm, .bool y.a.neg, .string y.a.num, .string y.a.den, .bool y.b.neg, .string y.b.num, .string y.b.den, .bool y.c.neg, .string y.c.num, .string y.c.den, .bool y.d.neg, .string y.d.num, .string y.d.den], .agg #[.bool x.neg, .string x.num, .string x.den], .int .i64 t] w fun r w' => r = .returned (.tuple #[.agg #[.bool false, .string { data := #[] }, .string { data := #[] }, .bool false, .string { data := #[] }, .string { data := #[] }, .bool false, .string { data := #[] }, .string { data := #[] }, .bool false, .string { data := #[] }, .string { data := #[] }], .int .i64 3]) ∧ Below w.heap.size w w' := by
  obtain ⟨ya, yb, yc, yd⟩ := hy
  obtain ⟨c1, _, p1, _, C1⟩ := cmpR w hT y.a y.c ya yc
  obtain ⟨c2, _, p2, _, C2⟩ := cmpR w hT y.b y.d yb yd
  have hI := (((In.start w).alloc 77 #[.string nm, .bool y.a.neg, .string y.a.num, .string y.a.den, .bool y.b.neg, .string y.b.num, .string y.b.den, .bool y.c.neg, .string y.c.num, .string y.c.den, .bool y.d.neg, .string y.d.num, .string y.d.den]).alloc 27 #[.bool x.neg, .string x.num, .string x.den]).alloc 64 #[.bool false, .string { data := #[] }, .string { data := #[] }, .bool false, .string { data := #[] }, .string { data := #[] }, .bool false, .string { data := #[] }, .string { data := #[] }, .bool false, .string { data := #[] }, .string { data := #[] }]
  rw [World.size_alloc, World.size_alloc] at hI
  have hcase : c1 > 0 ∨ (¬ c1 > 0 ∧ c2 > 0) := by
    rcases hb with h | h
    · exact .inl (p1.mpr h)
    · rcases Int.lt_or_le 0 c1 with h1 | h1
      · exact .inl h1
      · exact .inr ⟨by omega, p2.mpr h⟩
  clear hb p1 p2 hT
  go_enter Tryd.func54, Tryd.ntmps54
  go_upto_region 1 with (fail)
  generalize World.alloc _ _ = W1 at hI ⊢
  rcases hcase with h1 | ⟨h1, h2⟩
  · refine wp_region_in_plain_all hI ?_
    repeat (first
      | (refine wpSeq_off (by rfl) ?_; try simp only [Act.put, List.setIfInBounds_toArray, List.set_cons_zero, List.set_cons_succ])
      | (refine wpSeq_val (v := ?_) (by rfl) (fun W hS => ?_) ?_
         rotate_left
         · (have fx := hS.facts; simp only [factsOf, cellsOf, Nat.zero_add, Nat.reduceAdd] at fx; clear hS; go_simp; first | done | with_reducible rfl)
         try simp only [Act.put, List.setIfInBounds_toArray, List.set_cons_zero, List.set_cons_succ]))
    refine wpSeq_call (v := .int .i64 c1) (by rfl) (fun W hS => ?_) (fun W hS => (C1.out W hS.bel)) ?_
    · (clear hS; go_simp; done)
    try simp only [Act.put, List.setIfInBounds_toArray, List.set_cons_zero, List.set_cons_succ]
    repeat (first
      | (refine wpSeq_off (by rfl) ?_; try simp only [Act.put, List.setIfInBounds_toArray, List.set_cons_zero, List.set_cons_succ])
      | (refine wpSeq_val (v := ?_) (by rfl) (fun W hS => ?_) ?_
         rotate_left
         · (have fx := hS.facts; simp only [factsOf, cellsOf, Nat.zero_add, Nat.reduceAdd] at fx; clear hS; go_simp; first | done | with_reducible rfl)
         try simp only [Act.put, List.setIfInBounds_toArray, List.set_cons_zero, List.set_cons_succ]))
    refine wpSeq_nil (fun W hS => ?_)
    have hS0 : In w ([(w.heap.size + 1 + 1, 64, #[.bool false, .string { data := #[] }, .string { data := #[] }, .bool false, .string { data := #[] }, .string { data := #[] }, .bool false, .string { data := #[] }, .string { data := #[] }, .bool false, .string { data := #[] }, .string { data := #[] }])] ++ [(w.heap.size + 1, 27, #[.bool x.neg, .string x.num, .string x.den]), (w.heap.size, 77, #[.string nm, .bool y.a.neg, .string y.a.num, .string y.a.den, .bool y.b.neg, .string y.b.num, .string y.b.den, .bool y.c.neg, .string y.c.num, .string y.c.den, .bool y.d.neg, .string y.d.num, .string y.d.den])]) W := hS
    have hS1 := hS0.take
    have HK := Lib.hid (hS0.all12 (a := []) (.bool false) (.string { data := #[] }) (.string { data := #[] }) (.bool false) (.string { data := #[] }) (.string { data := #[] }) (.bool false) (.string { data := #[] }) (.string { data := #[] }) (.bool false) (.string { data := #[] }) (.string { data := #[] }))
    have hfx := hS1.facts
    simp only [factsOf, cellsOf, Nat.zero_add, Nat.reduceAdd] at hfx
    have hfz := fun i => hS1.free (k := 0) (i := i) rfl
    clear hS0 hS1 hS hI
    go_wp2_with fail
    clear hfx hfz
    have hK := HK.out
    clear HK
    generalize World.setCell _ _ _ = W9 at hK ⊢
    refine bodyPost_ret (results_cell_two Tryd.results54 _ _ (w.heap.size + 1 + 1) 64 _ (0, 0) _ _ rfl rfl (hK.blkAt (k := 0) rfl) Tryd.underlying64 rfl (by kernel_rfl)) rfl ?_
    exact ⟨rfl, hK.bel⟩
  · refine wp_region_in_plain_all hI ?_
    repeat (first
      | (refine wpSeq_off (by rfl) ?_; try simp only [Act.put, List.setIfInBounds_toArray, List.set_cons_zero, List.set_cons_succ])
      | (refine wpSeq_val (v := ?_) (by rfl) (fun W hS => ?_) ?_
         rotate_left
         · (have fx := hS.facts; simp only [factsOf, cellsOf, Nat.zero_add, Nat.reduceAdd] at fx; clear hS; go_simp; first | done | with_reducible rfl)
         try simp only [Act.put, List.setIfInBounds_toArray, List.set_cons_zero, List.set_cons_succ]))
    refine wpSeq_call (v := .int .i64 c1) (by rfl) (fun W hS => ?_) (fun W hS => (C1.out W hS.bel)) ?_
    · (clear hS; go_simp; done)
    try simp only [Act.put, List.setIfInBounds_toArray, List.set_cons_zero, List.set_cons_succ]
    repeat (first
      | (refine wpSeq_off (by rfl) ?_; try simp only [Act.put, List.setIfInBounds_toArray, List.set_cons_zero, List.set_cons_succ])
      | (refine wpSeq_val (v := ?_) (by rfl) (fun W hS => ?_) ?_
         rotate_left
         · (have fx := hS.facts; simp only [factsOf, cellsOf, Nat.zero_add, Nat.reduceAdd] at fx; clear hS; go_simp; first | done | with_reducible rfl)
         try simp only [Act.put, List.setIfInBounds_toArray, List.set_cons_zero, List.set_cons_succ]))
    refine wpSeq_call (v := .int .i64 c2) (by rfl) (fun W hS => ?_) (fun W hS => (C2.out W hS.bel)) ?_
    · (clear hS; go_simp; done)
    try simp only [Act.put, List.setIfInBounds_toArray, List.set_cons_zero, List.set_cons_succ]
    repeat (first
      | (refine wpSeq_off (by rfl) ?_; try simp only [Act.put, List.setIfInBounds_toArray, List.set_cons_zero, List.set_cons_succ])
      | (refine wpSeq_val (v := ?_) (by rfl) (fun W hS => ?_) ?_
         rotate_left
         · (have fx := hS.facts; simp only [factsOf, cellsOf, Nat.zero_add, Nat.reduceAdd] at fx; clear hS; go_simp; first | done | with_reducible rfl)
         try simp only [Act.put, List.setIfInBounds_toArray, List.set_cons_zero, List.set_cons_succ]))
    refine wpSeq_nil (fun W hS => ?_)
    have hS0 : In w ([(w.heap.size + 1 + 1, 64, #[.bool false, .string { data := #[] }, .string { data := #[] }, .bool false, .string { data := #[] }, .string { data := #[] }, .bool false, .string { data := #[] }, .string { data := #[] }, .bool false, .string { data := #[] }, .string { data := #[] }])] ++ [(w.heap.size + 1, 27, #[.bool x.neg, .string x.num, .string x.den]), (w.heap.size, 77, #[.string nm, .bool y.a.neg, .string y.a.num, .string y.a.den, .bool y.b.neg, .string y.b.num, .string y.b.den, .bool y.c.neg, .string y.c.num, .string y.c.den, .bool y.d.neg, .string y.d.num, .string y.d.den])]) W := hS
    have hS1 := hS0.take
    have HK := Lib.hid (hS0.all12 (a := []) (.bool false) (.string { data := #[] }) (.string { data := #[] }) (.bool false) (.string { data := #[] }) (.string { data := #[] }) (.bool false) (.string { data := #[] }) (.string { data := #[] }) (.bool false) (.string { data := #[] }) (.string { data := #[] }))
    have hfx := hS1.facts
    simp only [factsOf, cellsOf, Nat.zero_add, Nat.reduceAdd] at hfx
    have hfz := fun i => hS1.free (k := 0) (i := i) rfl
    clear hS0 hS1 hS hI
    go_wp2_with fail
    clear hfx hfz
    have hK := HK.out
    clear HK
    generalize World.setCell _ _ _ = W9 at hK ⊢
    refine bodyPost_ret (results_cell_two Tryd.results54 _ _ (w.heap.size + 1 + 1) 64 _ (0, 0) _ _ rfl rfl (hK.blkAt (k := 0) rfl) Tryd.underlying64 rfl (by kernel_rfl)) rfl ?_
    exact ⟨rfl, hK.bel⟩
set_option maxRecDepth 100000 in
set_option maxHeartbeats 8000000 in
theorem gate_ok (w : World) (hT : TabW w) (nm : ByteArray) (y : B4) (x : Q3) (t : Int) (ht : -9223372036854775808 ≤ t ∧ t ≤ 9223372036854775807) {N M : Nat} (hy : y.le N) (hx : x.le M) (h1 : y.a.q ≤ y.c.q) (h2 : y.b.q ≤ y.d.q) (hN : 1 ≤ N ∧ N ≤ 274877906944 ∧ 8 ≤ M ∧ M ≤ 137438953472 := by omega) :
    ∃ e f g h : Q3, e.q = y.a.q - farV x.q t ∧ f.q = y.b.q - farV x.q t ∧ g.q = y.c.q + farV x.q t ∧ h.q = y.d.q + farV x.q t ∧ (e.can ∧ f.can ∧ g.can ∧ h.can) ∧
    Calls Tryd.prog 54 #[.agg #[.string nm, .bool y.a.neg, .string y.a.num, .string y.a.den, .bool y.b.neg, .string y.b.num, .string y.b.den, .bool y.c.neg, .string y.c.num, .string y.c.den, .bool y.d.neg, .string y.d.num, .string y.d.den], .agg #[.bool x.neg, .string x.num, .string x.den], .int .i64 t] w fun r w' => r = .returned (.tuple #[.agg #[.bool e.neg, .string e.num, .string e.den, .bool f.neg, .string f.num, .string f.den, .bool g.neg, .string g.num, .string g.den, .bool h.neg, .string h.num, .string h.den], .int .i64 0]) ∧ Below w.heap.size w w' := by
  obtain ⟨ya, yb, yc, yd⟩ := hy
  obtain ⟨c1, _, p1, _, C1⟩ := cmpR w hT y.a y.c ya yc
  obtain ⟨c2, _, p2, _, C2⟩ := cmpR w hT y.b y.d yb yd
  have g1 : ¬ c1 > 0 := fun h => absurd (p1.mp h) (by grind)
  have g2 : ¬ c2 > 0 := fun h => absurd (p2.mp h) (by grind)
  obtain ⟨z, qz, _, lz, Fz⟩ := farR w hT x hx t ht
  obtain ⟨m, e, f, g, h, qm, qe, qf, qg, qh, hc, _, Gr⟩ := grownR w hT y.a y.b y.c y.d z ya yb yc yd lz
  have hm : m.q = farV x.q t := by rw [qm, qz]; exact maxQ_of_nonneg (farV_nonneg _ _)
  rw [hm] at qe qf qg qh
  refine ⟨e, f, g, h, qe, qf, qg, qh, hc, ?_⟩
  have hI := (((In.start w).alloc 77 #[.string nm, .bool y.a.neg, .string y.a.num, .string y.a.den, .bool y.b.neg, .string y.b.num, .string y.b.den, .bool y.c.neg, .string y.c.num, .string y.c.den, .bool y.d.neg, .string y.d.num, .string y.d.den]).alloc 27 #[.bool x.neg, .string x.num, .string x.den]).alloc 64 #[.bool false, .string { data := #[] }, .string { data := #[] }, .bool false, .string { data := #[] }, .string { data := #[] }, .bool false, .string { data := #[] }, .string { data := #[] }, .bool false, .string { data := #[] }, .string { data := #[] }]
  rw [World.size_alloc, World.size_alloc] at hI
  clear p1 p2 qz qm qe qf qg qh hm hc hT h1 h2
  go_enter Tryd.func54, Tryd.ntmps54
  go_upto_region 1 with (fail)
  generalize World.alloc _ _ = W1 at hI ⊢
  refine wp_region_in_plain_all hI ?_
  repeat (first
    | (refine wpSeq_off (by rfl) ?_; try simp only [Act.put, List.setIfInBounds_toArray, List.set_cons_zero, List.set_cons_succ])
    | (refine wpSeq_val (v := ?_) (by rfl) (fun W hS => ?_) ?_
       rotate_left
       · (have fx := hS.facts; simp only [factsOf, cellsOf, Nat.zero_add, Nat.reduceAdd] at fx; clear hS; go_simp; first | done | with_reducible rfl)
       try simp only [Act.put, List.setIfInBounds_toArray, List.set_cons_zero, List.set_cons_succ]))
  refine wpSeq_call (v := .int .i64 c1) (by rfl) (fun W hS => ?_) (fun W hS => (C1.out W hS.bel)) ?_
  · (clear hS; go_simp; done)
  try simp only [Act.put, List.setIfInBounds_toArray, List.set_cons_zero, List.set_cons_succ]
  repeat (first
    | (refine wpSeq_off (by rfl) ?_; try simp only [Act.put, List.setIfInBounds_toArray, List.set_cons_zero, List.set_cons_succ])
    | (refine wpSeq_val (v := ?_) (by rfl) (fun W hS => ?_) ?_
       rotate_left
       · (have fx := hS.facts; simp only [factsOf, cellsOf, Nat.zero_add, Nat.reduceAdd] at fx; clear hS; go_simp; first | done | with_reducible rfl)
       try simp only [Act.put, List.setIfInBounds_toArray, List.set_cons_zero, List.set_cons_succ]))
  refine wpSeq_call (v := .int .i64 c2) (by rfl) (fun W hS => ?_) (fun W hS => (C2.out W hS.bel)) ?_
  · (clear hS; go_simp; done)
  try simp only [Act.put, List.setIfInBounds_toArray, List.set_cons_zero, List.set_cons_succ]
  repeat (first
    | (refine wpSeq_off (by rfl) ?_; try simp only [Act.put, List.setIfInBounds_toArray, List.set_cons_zero, List.set_cons_succ])
    | (refine wpSeq_val (v := ?_) (by rfl) (fun W hS => ?_) ?_
       rotate_left
       · (have fx := hS.facts; simp only [factsOf, cellsOf, Nat.zero_add, Nat.reduceAdd] at fx; clear hS; go_simp; first | done | with_reducible rfl)
       try simp only [Act.put, List.setIfInBounds_toArray, List.set_cons_zero, List.set_cons_succ]))
  refine wpSeq_nil (fun W hS => ?_)
  clear hI
  go_upto_region 3 with (fail)
  refine wp_region_in_tail 6 hS (by kernel_rfl) (by kernel_rfl) ?_
  simp only [List.take_succ_cons, List.take_zero, List.drop_succ_cons, List.drop_zero]
  repeat (first
    | (refine wpSeq_off (by rfl) ?_; try simp only [Act.put, List.setIfInBounds_toArray, List.set_cons_zero, List.set_cons_succ])
    | (refine wpSeq_val (v := ?_) (by rfl) (fun W hS => ?_) ?_
       rotate_left
       · (have fx := hS.facts; simp only [factsOf, cellsOf, Nat.zero_add, Nat.reduceAdd] at fx; clear hS; go_simp; first | done | with_reducible rfl)
       try simp only [Act.put, List.setIfInBounds_toArray, List.set_cons_zero, List.set_cons_succ]))
  refine wpSeq_call (v := .agg #[.bool z.neg, .string z.num, .string z.den]) (by rfl) (fun W hS => ?_) (fun W hS => (Fz.out W hS.bel)) ?_
  · (clear hS; go_simp; done)
  try simp only [Act.put, List.setIfInBounds_toArray, List.set_cons_zero, List.set_cons_succ]
  repeat (first
    | (refine wpSeq_off (by rfl) ?_; try simp only [Act.put, List.setIfInBounds_toArray, List.set_cons_zero, List.set_cons_succ])
    | (refine wpSeq_val (v := ?_) (by rfl) (fun W hS => ?_) ?_
       rotate_left
       · (have fx := hS.facts; simp only [factsOf, cellsOf, Nat.zero_add, Nat.reduceAdd] at fx; clear hS; go_simp; first | done | with_reducible rfl)
       try simp only [Act.put, List.setIfInBounds_toArray, List.set_cons_zero, List.set_cons_succ]))
  refine wpSeq_call (v := .agg #[.bool e.neg, .string e.num, .string e.den, .bool f.neg, .string f.num, .string f.den, .bool g.neg, .string g.num, .string g.den, .bool h.neg, .string h.num, .string h.den]) (by rfl) (fun W hS => ?_) (fun W hS => (Gr.out W hS.bel)) ?_
  · (clear hS; go_simp; done)
  try simp only [Act.put, List.setIfInBounds_toArray, List.set_cons_zero, List.set_cons_succ]
  repeat (first
    | (refine wpSeq_off (by rfl) ?_; try simp only [Act.put, List.setIfInBounds_toArray, List.set_cons_zero, List.set_cons_succ])
    | (refine wpSeq_val (v := ?_) (by rfl) (fun W hS => ?_) ?_
       rotate_left
       · (have fx := hS.facts; simp only [factsOf, cellsOf, Nat.zero_add, Nat.reduceAdd] at fx; clear hS; go_simp; first | done | with_reducible rfl)
       try simp only [Act.put, List.setIfInBounds_toArray, List.set_cons_zero, List.set_cons_succ]))
  refine wpSeq_nil (fun W hS => ?_)
  have hS0 : In w ([(w.heap.size + 1 + 1, 64, #[.bool false, .string { data := #[] }, .string { data := #[] }, .bool false, .string { data := #[] }, .string { data := #[] }, .bool false, .string { data := #[] }, .string { data := #[] }, .bool false, .string { data := #[] }, .string { data := #[] }])] ++ [(w.heap.size + 1, 27, #[.bool x.neg, .string x.num, .string x.den]), (w.heap.size, 77, #[.string nm, .bool y.a.neg, .string y.a.num, .string y.a.den, .bool y.b.neg, .string y.b.num, .string y.b.den, .bool y.c.neg, .string y.c.num, .string y.c.den, .bool y.d.neg, .string y.d.num, .string y.d.den])]) W := hS
  have hS1 := hS0.take
  have HK := Lib.hid (hS0.all12 (a := []) (.bool e.neg) (.string e.num) (.string e.den) (.bool f.neg) (.string f.num) (.string f.den) (.bool g.neg) (.string g.num) (.string g.den) (.bool h.neg) (.string h.num) (.string h.den))
  have hfx := hS1.facts
  simp only [factsOf, cellsOf, Nat.zero_add, Nat.reduceAdd] at hfx
  have hfz := fun i => hS1.free (k := 0) (i := i) rfl
  clear hS0 hS1 hS
  go_wp2_with fail
  clear hfx hfz
  have hK := HK.out
  clear HK
  generalize World.setCell _ _ _ = W9 at hK ⊢
  refine bodyPost_ret (results_cell_two Tryd.results54 _ _ (w.heap.size + 1 + 1) 64 _ (0, 0) _ _ rfl rfl (hK.blkAt (k := 0) rfl) Tryd.underlying64 rfl (by kernel_rfl)) rfl ?_
  exact ⟨rfl, hK.bel⟩
end Go.Proofs.YthmgcbpmfipfiaaDoor
