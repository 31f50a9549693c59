/- zone.far, zone.grown, zone.Reach, zone.Within. Conditions: those typed. -/
import Derived.Test.YthmgcbpmfipfiaaDoorMakeQ
import Derived.Test.YthmgcbpmfipfiaaDoorSeqIn
import Derived.Deep.RegionHeld3
namespace Go.Proofs.YthmgcbpmfipfiaaDoor
open Go.RowKit Go.Gy
set_option linter.unusedVariables false
/-- the greatest of two numbers, as Go's max -/
theorem farR_arg (t : Int) : max t 0 = if t < 0 then 0 else t := by omega
set_option maxRecDepth 100000 in
set_option maxHeartbeats 4000000 in
theorem farR (w : World) (hT : TabW w) (x : Q3) {N : Nat} (hx : x.le N) (t : Int) (ht : -9223372036854775808 ≤ t ∧ t ≤ 9223372036854775807) (hN : 8 ≤ N ∧ N ≤ 274877906944 := by omega) :
    ∃ z : Q3, z.q = maxQ x.q 0 * ((max t 0 : Int) : Rat) ∧ z.can ∧ z.le (N + 8) ∧ Hid (∀ W, Below w.heap.size w W → Calls Tryd.prog 81 #[.agg #[.bool x.neg, .string x.num, .string x.den], .int .i64 t] W fun e w' => e = .returned (.agg #[.bool z.neg, .string z.num, .string z.den]) ∧ Below W.heap.size W w') := by
  obtain ⟨z0, q0, _, l0, O0⟩ := ofR w hT 0
  obtain ⟨m, qm, _, lm, Mx⟩ := maxR w hT x z0 hx l0
  have lm' : m.le N := lm.more (by omega)
  obtain ⟨tt, htt⟩ : ∃ tt : Int, tt = max t 0 := ⟨_, rfl⟩
  obtain ⟨zt, qt, _, lt, Ot⟩ := ofR w hT tt (by omega)
  obtain ⟨z, qz, cz, lz, Mu⟩ := mulR w hT m zt lm' lt
  refine ⟨z, ?_, cz, lz, Lib.hid fun W0 hW0 => ?_⟩
  · rw [qz, qm, q0, qt, htt]; rfl
  have hmx := htt.symm
  replace O0 := up O0 hW0
  replace Mx := up Mx hW0
  replace Ot := up Ot hW0
  replace Mu := up Mu hW0
  have hI := ((In.start W0).alloc 27 #[.bool x.neg, .string x.num, .string x.den]).alloc 27 #[.bool false, .string { data := #[] }, .string { data := #[] }]
  rw [World.size_alloc] at hI
  clear qz qm q0 qt htt hT hW0
  go_enter Tryd.func81, Tryd.ntmps81
  go_wp2_with fail
  refine wp_region_in_tail 7 hI (by kernel_rfl) (by kernel_rfl) ?_
  simp only [List.take_succ_cons, List.take_zero, List.drop_succ_cons, List.drop_zero]
  repeat (first
    | (refine wpSeq_off (by rfl) ?_; try simp only [Act.put, List.setIfInBounds_toArray, List.set_cons_zero, List.set_cons_succ])
    | (refine wpSeq_val (v := ?_) (by rfl) (fun W hS => ?_) ?_
       rotate_left
       · (have fx := hS.facts; simp only [factsOf, cellsOf, Nat.zero_add, Nat.reduceAdd] at fx; clear hS; go_simp; first | done | with_reducible rfl)
       try simp only [Act.put, List.setIfInBounds_toArray, List.set_cons_zero, List.set_cons_succ]))
  refine wpSeq_call (v := .agg #[.bool z0.neg, .string z0.num, .string z0.den]) (by rfl) (fun W hS => ?_) (fun W hS => (O0.out W hS.bel)) ?_
  · (clear hS; go_simp; done)
  try simp only [Act.put, List.setIfInBounds_toArray, List.set_cons_zero, List.set_cons_succ]
  repeat (first
    | (refine wpSeq_off (by rfl) ?_; try simp only [Act.put, List.setIfInBounds_toArray, List.set_cons_zero, List.set_cons_succ])
    | (refine wpSeq_val (v := ?_) (by rfl) (fun W hS => ?_) ?_
       rotate_left
       · (have fx := hS.facts; simp only [factsOf, cellsOf, Nat.zero_add, Nat.reduceAdd] at fx; clear hS; go_simp; first | done | with_reducible rfl)
       try simp only [Act.put, List.setIfInBounds_toArray, List.set_cons_zero, List.set_cons_succ]))
  refine wpSeq_call (v := .agg #[.bool m.neg, .string m.num, .string m.den]) (by rfl) (fun W hS => ?_) (fun W hS => (Mx.out W hS.bel)) ?_
  · (clear hS; go_simp; done)
  try simp only [Act.put, List.setIfInBounds_toArray, List.set_cons_zero, List.set_cons_succ]
  repeat (first
    | (refine wpSeq_off (by rfl) ?_; try simp only [Act.put, List.setIfInBounds_toArray, List.set_cons_zero, List.set_cons_succ])
    | (refine wpSeq_val (v := ?_) (by rfl) (fun W hS => ?_) ?_
       rotate_left
       · (have fx := hS.facts; simp only [factsOf, cellsOf, Nat.zero_add, Nat.reduceAdd] at fx; clear hS; go_simp; first | done | with_reducible rfl)
       try simp only [Act.put, List.setIfInBounds_toArray, List.set_cons_zero, List.set_cons_succ]))
  refine wpSeq_call (v := .agg #[.bool zt.neg, .string zt.num, .string zt.den]) (by rfl) (fun W hS => ?_) (fun W hS => (Ot.out W hS.bel)) ?_
  · (clear hS; go_simp; done)
  try simp only [Act.put, List.setIfInBounds_toArray, List.set_cons_zero, List.set_cons_succ]
  repeat (first
    | (refine wpSeq_off (by rfl) ?_; try simp only [Act.put, List.setIfInBounds_toArray, List.set_cons_zero, List.set_cons_succ])
    | (refine wpSeq_val (v := ?_) (by rfl) (fun W hS => ?_) ?_
       rotate_left
       · (have fx := hS.facts; simp only [factsOf, cellsOf, Nat.zero_add, Nat.reduceAdd] at fx; clear hS; go_simp; first | done | with_reducible rfl)
       try simp only [Act.put, List.setIfInBounds_toArray, List.set_cons_zero, List.set_cons_succ]))
  refine wpSeq_call (v := .agg #[.bool z.neg, .string z.num, .string z.den]) (by rfl) (fun W hS => ?_) (fun W hS => (Mu.out W hS.bel)) ?_
  · (clear hS; go_simp; done)
  try simp only [Act.put, List.setIfInBounds_toArray, List.set_cons_zero, List.set_cons_succ]
  repeat (first
    | (refine wpSeq_off (by rfl) ?_; try simp only [Act.put, List.setIfInBounds_toArray, List.set_cons_zero, List.set_cons_succ])
    | (refine wpSeq_val (v := ?_) (by rfl) (fun W hS => ?_) ?_
       rotate_left
       · (have fx := hS.facts; simp only [factsOf, cellsOf, Nat.zero_add, Nat.reduceAdd] at fx; clear hS; go_simp; first | done | with_reducible rfl)
       try simp only [Act.put, List.setIfInBounds_toArray, List.set_cons_zero, List.set_cons_succ]))
  refine wpSeq_nil (fun W hS => ?_)
  have hS0 := hS.take (a := [_])
  have HK := Lib.hid ((hS.all3 (a := []) (.bool z.neg) (.string z.num) (.string z.den)))
  have hfx := hS0.facts
  simp only [factsOf, cellsOf, Nat.zero_add, Nat.reduceAdd] at hfx
  have hfz := fun i => hS0.free (k := 0) (i := i) rfl
  clear hS0 hS
  go_wp2_with fail
  clear hfx hfz
  have hK := HK.out
  clear HK
  generalize World.setCell _ _ _ = W9 at hK ⊢
  refine bodyPost_ret (results_cell_row Tryd.results81 _ _ (W0.heap.size + 1 ) 27 _ (0, 0) _ rfl (hK.blkAt (k := 0) rfl) Tryd.underlying27 rfl (by kernel_rfl)) rfl ?_
  exact ⟨rfl, hK.bel⟩
set_option maxRecDepth 100000 in
set_option maxHeartbeats 4000000 in
theorem grownR (w : World) (hT : TabW w) (a b c d x : Q3) {N M : Nat} (ha : a.le N) (hb : b.le N) (hc : c.le N) (hd : d.le N) (hx : x.le M) (hN : 1 ≤ N ∧ N ≤ 274877906944 ∧ 8 ≤ M ∧ M ≤ 274877906944 := by omega) :
    ∃ m e f g h : Q3, m.q = maxQ x.q 0 ∧ e.q = a.q - m.q ∧ f.q = b.q - m.q ∧ g.q = c.q + m.q ∧ h.q = d.q + m.q ∧ (e.can ∧ f.can ∧ g.can ∧ h.can) ∧ (e.le (N + M + 1) ∧ f.le (N + M + 1) ∧ g.le (N + M + 1) ∧ h.le (N + M + 1)) ∧
    Hid (∀ W, Below w.heap.size w W → Calls Tryd.prog 80 #[.agg #[.bool a.neg, .string a.num, .string a.den, .bool b.neg, .string b.num, .string b.den, .bool c.neg, .string c.num, .string c.den, .bool d.neg, .string d.num, .string d.den], .agg #[.bool x.neg, .string x.num, .string x.den]] W fun r w' => r = .returned (.agg #[.bool e.neg, .string e.num, .string e.den, .bool f.neg, .string f.num, .string f.den, .bool g.neg, .string g.num, .string g.den, .bool h.neg, .string h.num, .string h.den]) ∧ Below W.heap.size W w') := by
  obtain ⟨z0, q0, _, l0, O0⟩ := ofR w hT 0
  obtain ⟨m, qm, _, lm', Mx⟩ := maxR w hT x z0 hx l0
  have lm : m.le M := lm'.more (by omega)
  obtain ⟨e, qe, ce, le, Se⟩ := subR w hT a m ha lm
  obtain ⟨f, qf, cf, lf, Sf⟩ := subR w hT b m hb lm
  obtain ⟨g, qg, cg, lg, Sg⟩ := addR w hT c m hc lm
  obtain ⟨h, qh, ch, lh, Sh⟩ := addR w hT d m hd lm
  refine ⟨m, e, f, g, h, by rw [qm, q0]; rfl, qe, qf, qg, qh, ⟨ce, cf, cg, ch⟩, ⟨le, lf, lg, lh⟩, Lib.hid fun W0 hW0 => ?_⟩
  replace O0 := up O0 hW0
  replace Mx := up Mx hW0
  replace Se := up Se hW0
  replace Sf := up Sf hW0
  replace Sg := up Sg hW0
  replace Sh := up Sh hW0
  have hI := (((In.start W0).alloc 64 #[.bool a.neg, .string a.num, .string a.den, .bool b.neg, .string b.num, .string b.den, .bool c.neg, .string c.num, .string c.den, .bool d.neg, .string d.num, .string d.den]).alloc 27 #[.bool x.neg, .string x.num, .string x.den]).alloc 64 #[.bool false, .string { data := #[] }, .string { data := #[] }, .bool false, .string { data := #[] }, .string { data := #[] }, .bool false, .string { data := #[] }, .string { data := #[] }, .bool false, .string { data := #[] }, .string { data := #[] }]
  rw [World.size_alloc, World.size_alloc] at hI
  clear q0 qm qe qf qg qh hT hW0
  go_enter Tryd.func80, Tryd.ntmps80
  go_upto_region 1 with (fail)
  go_cut [] (fun wx => In W0 [(W0.heap.size + 1 + 1, 64, #[.bool false, .string { data := #[] }, .string { data := #[] }, .bool false, .string { data := #[] }, .string { data := #[] }, .bool false, .string { data := #[] }, .string { data := #[] }, .bool false, .string { data := #[] }, .string { data := #[] }]), (W0.heap.size + 1, 27, #[.bool m.neg, .string m.num, .string m.den]), (W0.heap.size, 64, #[.bool a.neg, .string a.num, .string a.den, .bool b.neg, .string b.num, .string b.den, .bool c.neg, .string c.num, .string c.den, .bool d.neg, .string d.num, .string d.den])] wx)
  case first =>
    generalize World.alloc _ _ = W1 at hI ⊢
    refine wp_region_in_tail 3 hI (by kernel_rfl) (by kernel_rfl) ?_
    simp only [List.take_succ_cons, List.take_zero, List.drop_succ_cons, List.drop_zero]
    repeat (first
      | (refine wpSeq_off (by rfl) ?_; try simp only [Act.put, List.setIfInBounds_toArray, List.set_cons_zero, List.set_cons_succ])
      | (refine wpSeq_val (v := ?_) (by rfl) (fun W hS => ?_) ?_
         rotate_left
         · (have fx := hS.facts; simp only [factsOf, cellsOf, Nat.zero_add, Nat.reduceAdd] at fx; clear hS; go_simp; first | done | with_reducible rfl)
         try simp only [Act.put, List.setIfInBounds_toArray, List.set_cons_zero, List.set_cons_succ]))
    refine wpSeq_call (v := .agg #[.bool z0.neg, .string z0.num, .string z0.den]) (by rfl) (fun W hS => ?_) (fun W hS => (O0.out W hS.bel)) ?_
    · (clear hS; go_simp; done)
    try simp only [Act.put, List.setIfInBounds_toArray, List.set_cons_zero, List.set_cons_succ]
    repeat (first
      | (refine wpSeq_off (by rfl) ?_; try simp only [Act.put, List.setIfInBounds_toArray, List.set_cons_zero, List.set_cons_succ])
      | (refine wpSeq_val (v := ?_) (by rfl) (fun W hS => ?_) ?_
         rotate_left
         · (have fx := hS.facts; simp only [factsOf, cellsOf, Nat.zero_add, Nat.reduceAdd] at fx; clear hS; go_simp; first | done | with_reducible rfl)
         try simp only [Act.put, List.setIfInBounds_toArray, List.set_cons_zero, List.set_cons_succ]))
    refine wpSeq_call (v := .agg #[.bool m.neg, .string m.num, .string m.den]) (by rfl) (fun W hS => ?_) (fun W hS => (Mx.out W hS.bel)) ?_
    · (clear hS; go_simp; done)
    try simp only [Act.put, List.setIfInBounds_toArray, List.set_cons_zero, List.set_cons_succ]
    repeat (first
      | (refine wpSeq_off (by rfl) ?_; try simp only [Act.put, List.setIfInBounds_toArray, List.set_cons_zero, List.set_cons_succ])
      | (refine wpSeq_val (v := ?_) (by rfl) (fun W hS => ?_) ?_
         rotate_left
         · (have fx := hS.facts; simp only [factsOf, cellsOf, Nat.zero_add, Nat.reduceAdd] at fx; clear hS; go_simp; first | done | with_reducible rfl)
         try simp only [Act.put, List.setIfInBounds_toArray, List.set_cons_zero, List.set_cons_succ]))
    refine wpSeq_nil (fun W hS => ?_)
    have fx := hS.facts
    simp only [factsOf, cellsOf, Nat.zero_add, Nat.reduceAdd] at fx
    have hz := fun i => hS.free (k := 1) (i := i) rfl
    go_wp2_with fail
    go_meet
    exact hS.put3 (a := [_]) 0 (.bool m.neg) (.string m.num) (.string m.den)
  case rest =>
    replace hI := hcut
    clear hcut
    go_wp2_with fail
    refine wp_region_in_tail 23 hI (by kernel_rfl) (by kernel_rfl) ?_
    simp only [List.take_succ_cons, List.take_zero, List.drop_succ_cons, List.drop_zero]
    repeat (first
      | (refine wpSeq_off (by rfl) ?_; try simp only [Act.put, List.setIfInBounds_toArray, List.set_cons_zero, List.set_cons_succ])
      | (refine wpSeq_val (v := ?_) (by rfl) (fun W hS => ?_) ?_
         rotate_left
         · (have fx := hS.facts; simp only [factsOf, cellsOf, Nat.zero_add, Nat.reduceAdd] at fx; clear hS; go_simp; first | done | with_reducible rfl)
         try simp only [Act.put, List.setIfInBounds_toArray, List.set_cons_zero, List.set_cons_succ]))
    refine wpSeq_call (v := .agg #[.bool e.neg, .string e.num, .string e.den]) (by rfl) (fun W hS => ?_) (fun W hS => (Se.out W hS.bel)) ?_
    · (clear hS; go_simp; done)
    try simp only [Act.put, List.setIfInBounds_toArray, List.set_cons_zero, List.set_cons_succ]
    repeat (first
      | (refine wpSeq_off (by rfl) ?_; try simp only [Act.put, List.setIfInBounds_toArray, List.set_cons_zero, List.set_cons_succ])
      | (refine wpSeq_val (v := ?_) (by rfl) (fun W hS => ?_) ?_
         rotate_left
         · (have fx := hS.facts; simp only [factsOf, cellsOf, Nat.zero_add, Nat.reduceAdd] at fx; clear hS; go_simp; first | done | with_reducible rfl)
         try simp only [Act.put, List.setIfInBounds_toArray, List.set_cons_zero, List.set_cons_succ]))
    refine wpSeq_call (v := .agg #[.bool f.neg, .string f.num, .string f.den]) (by rfl) (fun W hS => ?_) (fun W hS => (Sf.out W hS.bel)) ?_
    · (clear hS; go_simp; done)
    try simp only [Act.put, List.setIfInBounds_toArray, List.set_cons_zero, List.set_cons_succ]
    repeat (first
      | (refine wpSeq_off (by rfl) ?_; try simp only [Act.put, List.setIfInBounds_toArray, List.set_cons_zero, List.set_cons_succ])
      | (refine wpSeq_val (v := ?_) (by rfl) (fun W hS => ?_) ?_
         rotate_left
         · (have fx := hS.facts; simp only [factsOf, cellsOf, Nat.zero_add, Nat.reduceAdd] at fx; clear hS; go_simp; first | done | with_reducible rfl)
         try simp only [Act.put, List.setIfInBounds_toArray, List.set_cons_zero, List.set_cons_succ]))
    refine wpSeq_call (v := .agg #[.bool g.neg, .string g.num, .string g.den]) (by rfl) (fun W hS => ?_) (fun W hS => (Sg.out W hS.bel)) ?_
    · (clear hS; go_simp; done)
    try simp only [Act.put, List.setIfInBounds_toArray, List.set_cons_zero, List.set_cons_succ]
    repeat (first
      | (refine wpSeq_off (by rfl) ?_; try simp only [Act.put, List.setIfInBounds_toArray, List.set_cons_zero, List.set_cons_succ])
      | (refine wpSeq_val (v := ?_) (by rfl) (fun W hS => ?_) ?_
         rotate_left
         · (have fx := hS.facts; simp only [factsOf, cellsOf, Nat.zero_add, Nat.reduceAdd] at fx; clear hS; go_simp; first | done | with_reducible rfl)
         try simp only [Act.put, List.setIfInBounds_toArray, List.set_cons_zero, List.set_cons_succ]))
    refine wpSeq_call (v := .agg #[.bool h.neg, .string h.num, .string h.den]) (by rfl) (fun W hS => ?_) (fun W hS => (Sh.out W hS.bel)) ?_
    · (clear hS; go_simp; done)
    try simp only [Act.put, List.setIfInBounds_toArray, List.set_cons_zero, List.set_cons_succ]
    repeat (first
      | (refine wpSeq_off (by rfl) ?_; try simp only [Act.put, List.setIfInBounds_toArray, List.set_cons_zero, List.set_cons_succ])
      | (refine wpSeq_val (v := ?_) (by rfl) (fun W hS => ?_) ?_
         rotate_left
         · (have fx := hS.facts; simp only [factsOf, cellsOf, Nat.zero_add, Nat.reduceAdd] at fx; clear hS; go_simp; first | done | with_reducible rfl)
         try simp only [Act.put, List.setIfInBounds_toArray, List.set_cons_zero, List.set_cons_succ]))
    refine wpSeq_nil (fun W hS => ?_)
    have hS0 := hS.take (a := [_])
    have HK := Lib.hid ((hS.all12 (a := []) (.bool e.neg) (.string e.num) (.string e.den) (.bool f.neg) (.string f.num) (.string f.den) (.bool g.neg) (.string g.num) (.string g.den) (.bool h.neg) (.string h.num) (.string h.den)))
    have hfx := hS0.facts
    simp only [factsOf, cellsOf, Nat.zero_add, Nat.reduceAdd] at hfx
    have hfz := fun i => hS0.free (k := 0) (i := i) rfl
    clear hS0 hS
    go_wp2_with fail
    clear hfx hfz
    have hK := HK.out
    clear HK
    generalize World.setCell _ _ _ = W9 at hK ⊢
    refine bodyPost_ret (results_cell_row Tryd.results80 _ _ (W0.heap.size + 1 + 1 ) 64 _ (0, 0) _ rfl (hK.blkAt (k := 0) rfl) Tryd.underlying64 rfl (by kernel_rfl)) rfl ?_
    exact ⟨rfl, hK.bel⟩
/-- how far one walks -/
def farV (x : Rat) (t : Int) : Rat := maxQ x 0 * ((max t 0 : Int) : Rat)
theorem maxQ_nonneg (x : Rat) : 0 ≤ maxQ x 0 := by unfold maxQ; split <;> grind
theorem farV_nonneg (x : Rat) (t : Int) : 0 ≤ farV x t := Rat.mul_nonneg (maxQ_nonneg x) (by
  have h : (0 : Int) ≤ max t 0 := by omega
  exact_mod_cast h)
theorem maxQ_of_nonneg {x : Rat} (h : 0 ≤ x) : maxQ x 0 = x := by unfold maxQ; rw [if_neg (by grind)]
set_option maxRecDepth 100000 in
set_option maxHeartbeats 4000000 in
theorem reachR (w : World) (hT : TabW w) (a b x : Q3) {N M : Nat} (ha : a.le N) (hb : b.le N) (hx : x.le M) (t : Int) (ht : -9223372036854775808 ≤ t ∧ t ≤ 9223372036854775807) (hN : 1 ≤ N ∧ N ≤ 274877906944 ∧ 8 ≤ M ∧ M ≤ 137438953472 := by omega) :
    ∃ e f g h : Q3, e.q = a.q - farV x.q t ∧ f.q = b.q - farV x.q t ∧ g.q = a.q + farV x.q t ∧ h.q = b.q + farV x.q t ∧ (e.can ∧ f.can ∧ g.can ∧ h.can) ∧ (e.le (N + M + 9) ∧ f.le (N + M + 9) ∧ g.le (N + M + 9) ∧ h.le (N + M + 9)) ∧
    Hid (∀ W, Below w.heap.size w W → Calls Tryd.prog 46 #[.agg #[.bool a.neg, .string a.num, .string a.den, .bool b.neg, .string b.num, .string b.den], .agg #[.bool x.neg, .string x.num, .string x.den], .int .i64 t] W fun r w' => r = .returned (.agg #[.bool e.neg, .string e.num, .string e.den, .bool f.neg, .string f.num, .string f.den, .bool g.neg, .string g.num, .string g.den, .bool h.neg, .string h.num, .string h.den]) ∧ Below W.heap.size W w') := by
  obtain ⟨z, qz, _, lz, Fz⟩ := farR w hT x hx t ht
  obtain ⟨m, e, f, g, h, qm, qe, qf, qg, qh, hc, hl, Gr⟩ := grownR w hT a b a b z ha hb ha hb lz
  have hm : m.q = farV x.q t := by rw [qm, qz]; exact maxQ_of_nonneg (farV_nonneg _ _)
  rw [hm] at qe qf qg qh
  refine ⟨e, f, g, h, qe, qf, qg, qh, hc, hl, Lib.hid fun W0 hW0 => ?_⟩
  replace Fz := up Fz hW0
  replace Gr := up Gr hW0
  have hI := (((In.start W0).alloc 58 #[.bool a.neg, .string a.num, .string a.den, .bool b.neg, .string b.num, .string b.den]).alloc 27 #[.bool x.neg, .string x.num, .string x.den]).alloc 64 #[.bool false, .string { data := #[] }, .string { data := #[] }, .bool false, .string { data := #[] }, .string { data := #[] }, .bool false, .string { data := #[] }, .string { data := #[] }, .bool false, .string { data := #[] }, .string { data := #[] }]
  rw [World.size_alloc, World.size_alloc] at hI
  clear qe qf qg qh qm qz hm hT hW0 hc hl
  go_enter Tryd.func46, Tryd.ntmps46
  go_wp2_with fail
  generalize World.alloc _ _ = W1 at hI ⊢
  refine wp_region_in_tail 7 hI (by kernel_rfl) (by kernel_rfl) ?_
  simp only [List.take_succ_cons, List.take_zero, List.drop_succ_cons, List.drop_zero]
  repeat (first
    | (refine wpSeq_off (by rfl) ?_; try simp only [Act.put, List.setIfInBounds_toArray, List.set_cons_zero, List.set_cons_succ])
    | (refine wpSeq_val (v := ?_) (by rfl) (fun W hS => ?_) ?_
       rotate_left
       · (have fx := hS.facts; simp only [factsOf, cellsOf, Nat.zero_add, Nat.reduceAdd] at fx; clear hS; go_simp; first | done | with_reducible rfl)
       try simp only [Act.put, List.setIfInBounds_toArray, List.set_cons_zero, List.set_cons_succ]))
  refine wpSeq_call (v := .agg #[.bool z.neg, .string z.num, .string z.den]) (by rfl) (fun W hS => ?_) (fun W hS => (Fz.out W hS.bel)) ?_
  · (clear hS; go_simp; done)
  try simp only [Act.put, List.setIfInBounds_toArray, List.set_cons_zero, List.set_cons_succ]
  repeat (first
    | (refine wpSeq_off (by rfl) ?_; try simp only [Act.put, List.setIfInBounds_toArray, List.set_cons_zero, List.set_cons_succ])
    | (refine wpSeq_val (v := ?_) (by rfl) (fun W hS => ?_) ?_
       rotate_left
       · (have fx := hS.facts; simp only [factsOf, cellsOf, Nat.zero_add, Nat.reduceAdd] at fx; clear hS; go_simp; first | done | with_reducible rfl)
       try simp only [Act.put, List.setIfInBounds_toArray, List.set_cons_zero, List.set_cons_succ]))
  refine wpSeq_call (v := .agg #[.bool e.neg, .string e.num, .string e.den, .bool f.neg, .string f.num, .string f.den, .bool g.neg, .string g.num, .string g.den, .bool h.neg, .string h.num, .string h.den]) (by rfl) (fun W hS => ?_) (fun W hS => (Gr.out W hS.bel)) ?_
  · (clear hS; go_simp; done)
  try simp only [Act.put, List.setIfInBounds_toArray, List.set_cons_zero, List.set_cons_succ]
  repeat (first
    | (refine wpSeq_off (by rfl) ?_; try simp only [Act.put, List.setIfInBounds_toArray, List.set_cons_zero, List.set_cons_succ])
    | (refine wpSeq_val (v := ?_) (by rfl) (fun W hS => ?_) ?_
       rotate_left
       · (have fx := hS.facts; simp only [factsOf, cellsOf, Nat.zero_add, Nat.reduceAdd] at fx; clear hS; go_simp; first | done | with_reducible rfl)
       try simp only [Act.put, List.setIfInBounds_toArray, List.set_cons_zero, List.set_cons_succ]))
  refine wpSeq_nil (fun W hS => ?_)
  have hS0 := hS.take (a := [_])
  have HK := Lib.hid ((hS.all12 (a := []) (.bool e.neg) (.string e.num) (.string e.den) (.bool f.neg) (.string f.num) (.string f.den) (.bool g.neg) (.string g.num) (.string g.den) (.bool h.neg) (.string h.num) (.string h.den)))
  have hfx := hS0.facts
  simp only [factsOf, cellsOf, Nat.zero_add, Nat.reduceAdd] at hfx
  have hfz := fun i => hS0.free (k := 0) (i := i) rfl
  clear hS0 hS
  go_wp2_with fail
  clear hfx hfz
  have hK := HK.out
  clear HK
  generalize World.setCell _ _ _ = W9 at hK ⊢
  refine bodyPost_ret (results_cell_row Tryd.results46 _ _ (W0.heap.size + 1 + 1 ) 64 _ (0, 0) _ rfl (hK.blkAt (k := 0) rfl) Tryd.underlying64 rfl (by kernel_rfl)) rfl ?_
  exact ⟨rfl, hK.bel⟩
/-- zone.Within -/
def inB (a b c d x y : Rat) : Bool := decide (a ≤ x) && (decide (x ≤ c) && (decide (b ≤ y) && decide (y ≤ d)))
set_option maxRecDepth 100000 in
set_option maxHeartbeats 4000000 in
theorem withinR (w : World) (hT : TabW w) (a b c d x y : Q3) (ha : a.ok) (hb : b.ok) (hc : c.ok) (hd : d.ok) (hx : x.ok) (hy : y.ok) :
    Hid (∀ W, Below w.heap.size w W → Calls Tryd.prog 45 #[.agg #[.bool a.neg, .string a.num, .string a.den, .bool b.neg, .string b.num, .string b.den, .bool c.neg, .string c.num, .string c.den, .bool d.neg, .string d.num, .string d.den], .agg #[.bool x.neg, .string x.num, .string x.den, .bool y.neg, .string y.num, .string y.den]] W fun r w' => r = .returned (.bool (inB a.q b.q c.q d.q x.q y.q)) ∧ Below W.heap.size W w') := by
  obtain ⟨c1, _, p1, _, C1⟩ := cmpR w hT a x (ha : a.le 274877906944) (hx : x.le 274877906944)
  obtain ⟨c2, _, p2, _, C2⟩ := cmpR w hT x c (hx : x.le 274877906944) (hc : c.le 274877906944)
  obtain ⟨c3, _, p3, _, C3⟩ := cmpR w hT b y (hb : b.le 274877906944) (hy : y.le 274877906944)
  obtain ⟨c4, _, p4, _, C4⟩ := cmpR w hT y d (hy : y.le 274877906944) (hd : d.le 274877906944)
  refine Lib.hid fun W0 hW0 => ?_
  replace C1 := up C1 hW0
  replace C2 := up C2 hW0
  replace C3 := up C3 hW0
  replace C4 := up C4 hW0
  have hI := ((In.start W0).alloc 64 #[.bool a.neg, .string a.num, .string a.den, .bool b.neg, .string b.num, .string b.den, .bool c.neg, .string c.num, .string c.den, .bool d.neg, .string d.num, .string d.den]).alloc 58 #[.bool x.neg, .string x.num, .string x.den, .bool y.neg, .string y.num, .string y.den]
  rw [World.size_alloc] at hI
  have t1 : decide (c1 ≤ 0) = decide (a.q ≤ x.q) := decide_eq_decide.mpr (by rw [← Rat.not_lt, ← p1]; omega)
  have t2 : decide (c2 ≤ 0) = decide (x.q ≤ c.q) := decide_eq_decide.mpr (by rw [← Rat.not_lt, ← p2]; omega)
  have t3 : decide (c3 ≤ 0) = decide (b.q ≤ y.q) := decide_eq_decide.mpr (by rw [← Rat.not_lt, ← p3]; omega)
  have t4 : decide (c4 ≤ 0) = decide (y.q ≤ d.q) := decide_eq_decide.mpr (by rw [← Rat.not_lt, ← p4]; omega)
  have HP := Lib.hid (show inB a.q b.q c.q d.q x.q y.q = (decide (c1 ≤ 0) && (decide (c2 ≤ 0) && (decide (c3 ≤ 0) && decide (c4 ≤ 0)))) by unfold inB; rw [t1, t2, t3, t4])
  obtain ⟨res, hres⟩ : ∃ res, res = inB a.q b.q c.q d.q x.q y.q := ⟨_, rfl⟩
  rw [← hres] at HP ⊢
  clear p1 p2 p3 p4 t1 t2 t3 t4 hres hT hW0
  go_enter Tryd.func45, Tryd.ntmps45
  go_upto_region 1 with (fail)
  generalize World.alloc _ _ = W1 at hI ⊢
  by_cases h1 : c1 ≤ 0
  · by_cases h2 : c2 ≤ 0
    · by_cases h3 : c3 ≤ 0
      · by_cases h4 : c4 ≤ 0
        · have HP1 := Lib.hid (show res = true from by rw [HP.out, decide_eq_true h1, decide_eq_true h2, decide_eq_true h3, decide_eq_true h4]; rfl)
          refine wp_region_in_plain_all hI ?_
          repeat (first
            | (refine wpSeq_off (by rfl) ?_; try simp only [Act.put, List.setIfInBounds_toArray, List.set_cons_zero, List.set_cons_succ])
            | (refine wpSeq_val (v := ?_) (by rfl) (fun W hS => ?_) ?_
               rotate_left
               · (have fx := hS.facts; simp only [factsOf, cellsOf, Nat.zero_add, Nat.reduceAdd] at fx; clear hS; go_simp; first | done | with_reducible rfl)
               try simp only [Act.put, List.setIfInBounds_toArray, List.set_cons_zero, List.set_cons_succ]))
          refine wpSeq_call (v := .int .i64 c1) (by rfl) (fun W hS => ?_) (fun W hS => (C1.out W hS.bel)) ?_
          · (clear hS; go_simp; done)
          try simp only [Act.put, List.setIfInBounds_toArray, List.set_cons_zero, List.set_cons_succ]
          repeat (first
            | (refine wpSeq_off (by rfl) ?_; try simp only [Act.put, List.setIfInBounds_toArray, List.set_cons_zero, List.set_cons_succ])
            | (refine wpSeq_val (v := ?_) (by rfl) (fun W hS => ?_) ?_
               rotate_left
               · (have fx := hS.facts; simp only [factsOf, cellsOf, Nat.zero_add, Nat.reduceAdd] at fx; clear hS; go_simp; first | done | with_reducible rfl)
               try simp only [Act.put, List.setIfInBounds_toArray, List.set_cons_zero, List.set_cons_succ]))
          refine wpSeq_call (v := .int .i64 c2) (by rfl) (fun W hS => ?_) (fun W hS => (C2.out W hS.bel)) ?_
          · (clear hS; go_simp; done)
          try simp only [Act.put, List.setIfInBounds_toArray, List.set_cons_zero, List.set_cons_succ]
          repeat (first
            | (refine wpSeq_off (by rfl) ?_; try simp only [Act.put, List.setIfInBounds_toArray, List.set_cons_zero, List.set_cons_succ])
            | (refine wpSeq_val (v := ?_) (by rfl) (fun W hS => ?_) ?_
               rotate_left
               · (have fx := hS.facts; simp only [factsOf, cellsOf, Nat.zero_add, Nat.reduceAdd] at fx; clear hS; go_simp; first | done | with_reducible rfl)
               try simp only [Act.put, List.setIfInBounds_toArray, List.set_cons_zero, List.set_cons_succ]))
          refine wpSeq_call (v := .int .i64 c3) (by rfl) (fun W hS => ?_) (fun W hS => (C3.out W hS.bel)) ?_
          · (clear hS; go_simp; done)
          try simp only [Act.put, List.setIfInBounds_toArray, List.set_cons_zero, List.set_cons_succ]
          repeat (first
            | (refine wpSeq_off (by rfl) ?_; try simp only [Act.put, List.setIfInBounds_toArray, List.set_cons_zero, List.set_cons_succ])
            | (refine wpSeq_val (v := ?_) (by rfl) (fun W hS => ?_) ?_
               rotate_left
               · (have fx := hS.facts; simp only [factsOf, cellsOf, Nat.zero_add, Nat.reduceAdd] at fx; clear hS; go_simp; first | done | with_reducible rfl)
               try simp only [Act.put, List.setIfInBounds_toArray, List.set_cons_zero, List.set_cons_succ]))
          refine wpSeq_call (v := .int .i64 c4) (by rfl) (fun W hS => ?_) (fun W hS => (C4.out W hS.bel)) ?_
          · (clear hS; go_simp; done)
          try simp only [Act.put, List.setIfInBounds_toArray, List.set_cons_zero, List.set_cons_succ]
          repeat (first
            | (refine wpSeq_off (by rfl) ?_; try simp only [Act.put, List.setIfInBounds_toArray, List.set_cons_zero, List.set_cons_succ])
            | (refine wpSeq_val (v := ?_) (by rfl) (fun W hS => ?_) ?_
               rotate_left
               · (have fx := hS.facts; simp only [factsOf, cellsOf, Nat.zero_add, Nat.reduceAdd] at fx; clear hS; go_simp; first | done | with_reducible rfl)
               try simp only [Act.put, List.setIfInBounds_toArray, List.set_cons_zero, List.set_cons_succ]))
          refine wpSeq_nil (fun W hS => ?_)
          go_wp2
          go_ret
          exact ⟨congrArg (fun b => Ending.returned (.bool b)) HP1.out.symm, hS.bel⟩
        · have HP1 := Lib.hid (show res = false from by rw [HP.out, decide_eq_true h1, decide_eq_true h2, decide_eq_true h3, decide_eq_false h4]; rfl)
          refine wp_region_in_plain_all hI ?_
          repeat (first
            | (refine wpSeq_off (by rfl) ?_; try simp only [Act.put, List.setIfInBounds_toArray, List.set_cons_zero, List.set_cons_succ])
            | (refine wpSeq_val (v := ?_) (by rfl) (fun W hS => ?_) ?_
               rotate_left
               · (have fx := hS.facts; simp only [factsOf, cellsOf, Nat.zero_add, Nat.reduceAdd] at fx; clear hS; go_simp; first | done | with_reducible rfl)
               try simp only [Act.put, List.setIfInBounds_toArray, List.set_cons_zero, List.set_cons_succ]))
          refine wpSeq_call (v := .int .i64 c1) (by rfl) (fun W hS => ?_) (fun W hS => (C1.out W hS.bel)) ?_
          · (clear hS; go_simp; done)
          try simp only [Act.put, List.setIfInBounds_toArray, List.set_cons_zero, List.set_cons_succ]
          repeat (first
            | (refine wpSeq_off (by rfl) ?_; try simp only [Act.put, List.setIfInBounds_toArray, List.set_cons_zero, List.set_cons_succ])
            | (refine wpSeq_val (v := ?_) (by rfl) (fun W hS => ?_) ?_
               rotate_left
               · (have fx := hS.facts; simp only [factsOf, cellsOf, Nat.zero_add, Nat.reduceAdd] at fx; clear hS; go_simp; first | done | with_reducible rfl)
               try simp only [Act.put, List.setIfInBounds_toArray, List.set_cons_zero, List.set_cons_succ]))
          refine wpSeq_call (v := .int .i64 c2) (by rfl) (fun W hS => ?_) (fun W hS => (C2.out W hS.bel)) ?_
          · (clear hS; go_simp; done)
          try simp only [Act.put, List.setIfInBounds_toArray, List.set_cons_zero, List.set_cons_succ]
          repeat (first
            | (refine wpSeq_off (by rfl) ?_; try simp only [Act.put, List.setIfInBounds_toArray, List.set_cons_zero, List.set_cons_succ])
            | (refine wpSeq_val (v := ?_) (by rfl) (fun W hS => ?_) ?_
               rotate_left
               · (have fx := hS.facts; simp only [factsOf, cellsOf, Nat.zero_add, Nat.reduceAdd] at fx; clear hS; go_simp; first | done | with_reducible rfl)
               try simp only [Act.put, List.setIfInBounds_toArray, List.set_cons_zero, List.set_cons_succ]))
          refine wpSeq_call (v := .int .i64 c3) (by rfl) (fun W hS => ?_) (fun W hS => (C3.out W hS.bel)) ?_
          · (clear hS; go_simp; done)
          try simp only [Act.put, List.setIfInBounds_toArray, List.set_cons_zero, List.set_cons_succ]
          repeat (first
            | (refine wpSeq_off (by rfl) ?_; try simp only [Act.put, List.setIfInBounds_toArray, List.set_cons_zero, List.set_cons_succ])
            | (refine wpSeq_val (v := ?_) (by rfl) (fun W hS => ?_) ?_
               rotate_left
               · (have fx := hS.facts; simp only [factsOf, cellsOf, Nat.zero_add, Nat.reduceAdd] at fx; clear hS; go_simp; first | done | with_reducible rfl)
               try simp only [Act.put, List.setIfInBounds_toArray, List.set_cons_zero, List.set_cons_succ]))
          refine wpSeq_call (v := .int .i64 c4) (by rfl) (fun W hS => ?_) (fun W hS => (C4.out W hS.bel)) ?_
          · (clear hS; go_simp; done)
          try simp only [Act.put, List.setIfInBounds_toArray, List.set_cons_zero, List.set_cons_succ]
          repeat (first
            | (refine wpSeq_off (by rfl) ?_; try simp only [Act.put, List.setIfInBounds_toArray, List.set_cons_zero, List.set_cons_succ])
            | (refine wpSeq_val (v := ?_) (by rfl) (fun W hS => ?_) ?_
               rotate_left
               · (have fx := hS.facts; simp only [factsOf, cellsOf, Nat.zero_add, Nat.reduceAdd] at fx; clear hS; go_simp; first | done | with_reducible rfl)
               try simp only [Act.put, List.setIfInBounds_toArray, List.set_cons_zero, List.set_cons_succ]))
          refine wpSeq_nil (fun W hS => ?_)
          go_wp2
          go_ret
          exact ⟨congrArg (fun b => Ending.returned (.bool b)) HP1.out.symm, hS.bel⟩
      · have HP1 := Lib.hid (show res = false from by rw [HP.out, decide_eq_true h1, decide_eq_true h2, decide_eq_false h3]; rfl)
        refine wp_region_in_plain_all hI ?_
        repeat (first
          | (refine wpSeq_off (by rfl) ?_; try simp only [Act.put, List.setIfInBounds_toArray, List.set_cons_zero, List.set_cons_succ])
          | (refine wpSeq_val (v := ?_) (by rfl) (fun W hS => ?_) ?_
             rotate_left
             · (have fx := hS.facts; simp only [factsOf, cellsOf, Nat.zero_add, Nat.reduceAdd] at fx; clear hS; go_simp; first | done | with_reducible rfl)
             try simp only [Act.put, List.setIfInBounds_toArray, List.set_cons_zero, List.set_cons_succ]))
        refine wpSeq_call (v := .int .i64 c1) (by rfl) (fun W hS => ?_) (fun W hS => (C1.out W hS.bel)) ?_
        · (clear hS; go_simp; done)
        try simp only [Act.put, List.setIfInBounds_toArray, List.set_cons_zero, List.set_cons_succ]
        repeat (first
          | (refine wpSeq_off (by rfl) ?_; try simp only [Act.put, List.setIfInBounds_toArray, List.set_cons_zero, List.set_cons_succ])
          | (refine wpSeq_val (v := ?_) (by rfl) (fun W hS => ?_) ?_
             rotate_left
             · (have fx := hS.facts; simp only [factsOf, cellsOf, Nat.zero_add, Nat.reduceAdd] at fx; clear hS; go_simp; first | done | with_reducible rfl)
             try simp only [Act.put, List.setIfInBounds_toArray, List.set_cons_zero, List.set_cons_succ]))
        refine wpSeq_call (v := .int .i64 c2) (by rfl) (fun W hS => ?_) (fun W hS => (C2.out W hS.bel)) ?_
        · (clear hS; go_simp; done)
        try simp only [Act.put, List.setIfInBounds_toArray, List.set_cons_zero, List.set_cons_succ]
        repeat (first
          | (refine wpSeq_off (by rfl) ?_; try simp only [Act.put, List.setIfInBounds_toArray, List.set_cons_zero, List.set_cons_succ])
          | (refine wpSeq_val (v := ?_) (by rfl) (fun W hS => ?_) ?_
             rotate_left
             · (have fx := hS.facts; simp only [factsOf, cellsOf, Nat.zero_add, Nat.reduceAdd] at fx; clear hS; go_simp; first | done | with_reducible rfl)
             try simp only [Act.put, List.setIfInBounds_toArray, List.set_cons_zero, List.set_cons_succ]))
        refine wpSeq_call (v := .int .i64 c3) (by rfl) (fun W hS => ?_) (fun W hS => (C3.out W hS.bel)) ?_
        · (clear hS; go_simp; done)
        try simp only [Act.put, List.setIfInBounds_toArray, List.set_cons_zero, List.set_cons_succ]
        repeat (first
          | (refine wpSeq_off (by rfl) ?_; try simp only [Act.put, List.setIfInBounds_toArray, List.set_cons_zero, List.set_cons_succ])
          | (refine wpSeq_val (v := ?_) (by rfl) (fun W hS => ?_) ?_
             rotate_left
             · (have fx := hS.facts; simp only [factsOf, cellsOf, Nat.zero_add, Nat.reduceAdd] at fx; clear hS; go_simp; first | done | with_reducible rfl)
             try simp only [Act.put, List.setIfInBounds_toArray, List.set_cons_zero, List.set_cons_succ]))
        refine wpSeq_nil (fun W hS => ?_)
        go_wp2
        go_ret
        exact ⟨congrArg (fun b => Ending.returned (.bool b)) HP1.out.symm, hS.bel⟩
    · have HP1 := Lib.hid (show res = false from by rw [HP.out, decide_eq_true h1, decide_eq_false h2]; rfl)
      refine wp_region_in_plain_all hI ?_
      repeat (first
        | (refine wpSeq_off (by rfl) ?_; try simp only [Act.put, List.setIfInBounds_toArray, List.set_cons_zero, List.set_cons_succ])
        | (refine wpSeq_val (v := ?_) (by rfl) (fun W hS => ?_) ?_
           rotate_left
           · (have fx := hS.facts; simp only [factsOf, cellsOf, Nat.zero_add, Nat.reduceAdd] at fx; clear hS; go_simp; first | done | with_reducible rfl)
           try simp only [Act.put, List.setIfInBounds_toArray, List.set_cons_zero, List.set_cons_succ]))
      refine wpSeq_call (v := .int .i64 c1) (by rfl) (fun W hS => ?_) (fun W hS => (C1.out W hS.bel)) ?_
      · (clear hS; go_simp; done)
      try simp only [Act.put, List.setIfInBounds_toArray, List.set_cons_zero, List.set_cons_succ]
      repeat (first
        | (refine wpSeq_off (by rfl) ?_; try simp only [Act.put, List.setIfInBounds_toArray, List.set_cons_zero, List.set_cons_succ])
        | (refine wpSeq_val (v := ?_) (by rfl) (fun W hS => ?_) ?_
           rotate_left
           · (have fx := hS.facts; simp only [factsOf, cellsOf, Nat.zero_add, Nat.reduceAdd] at fx; clear hS; go_simp; first | done | with_reducible rfl)
           try simp only [Act.put, List.setIfInBounds_toArray, List.set_cons_zero, List.set_cons_succ]))
      refine wpSeq_call (v := .int .i64 c2) (by rfl) (fun W hS => ?_) (fun W hS => (C2.out W hS.bel)) ?_
      · (clear hS; go_simp; done)
      try simp only [Act.put, List.setIfInBounds_toArray, List.set_cons_zero, List.set_cons_succ]
      repeat (first
        | (refine wpSeq_off (by rfl) ?_; try simp only [Act.put, List.setIfInBounds_toArray, List.set_cons_zero, List.set_cons_succ])
        | (refine wpSeq_val (v := ?_) (by rfl) (fun W hS => ?_) ?_
           rotate_left
           · (have fx := hS.facts; simp only [factsOf, cellsOf, Nat.zero_add, Nat.reduceAdd] at fx; clear hS; go_simp; first | done | with_reducible rfl)
           try simp only [Act.put, List.setIfInBounds_toArray, List.set_cons_zero, List.set_cons_succ]))
      refine wpSeq_nil (fun W hS => ?_)
      go_wp2
      go_ret
      exact ⟨congrArg (fun b => Ending.returned (.bool b)) HP1.out.symm, hS.bel⟩
  · have HP1 := Lib.hid (show res = false from by rw [HP.out, decide_eq_false h1]; rfl)
    refine wp_region_in_plain_all hI ?_
    repeat (first
      | (refine wpSeq_off (by rfl) ?_; try simp only [Act.put, List.setIfInBounds_toArray, List.set_cons_zero, List.set_cons_succ])
      | (refine wpSeq_val (v := ?_) (by rfl) (fun W hS => ?_) ?_
         rotate_left
         · (have fx := hS.facts; simp only [factsOf, cellsOf, Nat.zero_add, Nat.reduceAdd] at fx; clear hS; go_simp; first | done | with_reducible rfl)
         try simp only [Act.put, List.setIfInBounds_toArray, List.set_cons_zero, List.set_cons_succ]))
    refine wpSeq_call (v := .int .i64 c1) (by rfl) (fun W hS => ?_) (fun W hS => (C1.out W hS.bel)) ?_
    · (clear hS; go_simp; done)
    try simp only [Act.put, List.setIfInBounds_toArray, List.set_cons_zero, List.set_cons_succ]
    repeat (first
      | (refine wpSeq_off (by rfl) ?_; try simp only [Act.put, List.setIfInBounds_toArray, List.set_cons_zero, List.set_cons_succ])
      | (refine wpSeq_val (v := ?_) (by rfl) (fun W hS => ?_) ?_
         rotate_left
         · (have fx := hS.facts; simp only [factsOf, cellsOf, Nat.zero_add, Nat.reduceAdd] at fx; clear hS; go_simp; first | done | with_reducible rfl)
         try simp only [Act.put, List.setIfInBounds_toArray, List.set_cons_zero, List.set_cons_succ]))
    refine wpSeq_nil (fun W hS => ?_)
    go_wp2
    go_ret
    exact ⟨congrArg (fun b => Ending.returned (.bool b)) HP1.out.symm, hS.bel⟩
end Go.Proofs.YthmgcbpmfipfiaaDoor
