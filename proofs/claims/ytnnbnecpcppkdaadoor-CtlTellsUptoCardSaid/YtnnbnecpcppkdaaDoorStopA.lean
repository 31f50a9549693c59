/- stop.Slower, stop.Ticks. Conditions: those typed. -/
import Derived.Test.YtnnbnecpcppkdaaDoorMakeQ
import Derived.Test.YtnnbnecpcppkdaaDoorSeqIn
namespace Go.Proofs.YtnnbnecpcppkdaaDoor
open Go.RowKit Go.Gy
set_option linter.unusedVariables false
/-- a link: five numbers and its shape -/
structure Lk where
  len : Q3
  low : Q3
  high : Q3
  speed : Q3
  brake : Q3
  shape : Value
def slowQ (b v : Rat) : Rat := if b ≤ 0 ∨ absQ v ≤ b then 0 else if 0 < v then v - b else v + b
set_option maxRecDepth 100000 in
set_option maxHeartbeats 4000000 in
theorem slowerR (w : World) (hT : TabW w) (b v : Q3) {N M : Nat} (hv : v.le N) (hb : b.le M) (hN : 1 ≤ N ∧ N ≤ 274877906944 ∧ 1 ≤ M ∧ M ≤ 274877906944 := by omega) :
    ∃ z : Q3, z.q = slowQ b.q v.q ∧ z.can ∧ z.le (N + M + 8) ∧ Hid (∀ W, Below w.heap.size w W → Calls Tryd.prog 20 #[.agg #[.bool b.neg, .string b.num, .string b.den], .agg #[.bool v.neg, .string v.num, .string v.den]] W fun r w' => r = .returned (.agg #[.bool z.neg, .string z.num, .string z.den]) ∧ Below W.heap.size W w') := by
  obtain ⟨cs, _, ps, _, S0⟩ := signR w hT b hb
  obtain ⟨a, qa, _, la, Ab⟩ := absR w hT v hv
  obtain ⟨c, _, pc, _, C1⟩ := cmpR w hT a b la hb
  obtain ⟨z0, q0, c0, l0, O0⟩ := ofR w hT 0
  obtain ⟨cv, _, pv, _, Sv⟩ := signR w hT v hv
  obtain ⟨d, qd, cd, ld, Db⟩ := subR w hT v b hv hb
  obtain ⟨s, qs, csn, ls, Ad⟩ := addR w hT v b hv hb
  rw [qa] at pc
  have hz0 : z0.q = 0 := q0
  have HZ : ∃ z : Q3, z.q = slowQ b.q v.q ∧ z.can ∧ z.le (N + M + 8) ∧ ((cs ≤ 0 ∧ z = z0) ∨ (¬ cs ≤ 0 ∧ c ≤ 0 ∧ z = z0) ∨ (¬ cs ≤ 0 ∧ ¬ c ≤ 0 ∧ cv > 0 ∧ z = d) ∨ (¬ cs ≤ 0 ∧ ¬ c ≤ 0 ∧ ¬ cv > 0 ∧ z = s)) := by
    unfold slowQ
    by_cases h1 : cs ≤ 0
    · refine ⟨z0, ?_, c0, l0.more (by omega), .inl ⟨h1, rfl⟩⟩
      rw [if_pos (.inl (Rat.not_lt.mp fun h => by have := ps.mpr h; omega)), hz0]
    · have hb0 : 0 < b.q := ps.mp (by omega)
      by_cases h2 : c ≤ 0
      · refine ⟨z0, ?_, c0, l0.more (by omega), .inr (.inl ⟨h1, h2, rfl⟩)⟩
        rw [if_pos (.inr (Rat.not_lt.mp fun h => by have := pc.mpr h; omega)), hz0]
      · have hb1 : b.q < absQ v.q := pc.mp (by omega)
        have hn : ¬ (b.q ≤ 0 ∨ absQ v.q ≤ b.q) := by grind
        by_cases h3 : cv > 0
        · refine ⟨d, ?_, cd, ld.more (by omega), .inr (.inr (.inl ⟨h1, h2, h3, rfl⟩))⟩
          rw [if_neg hn, if_pos (pv.mp h3), qd]
        · refine ⟨s, ?_, csn, ls.more (by omega), .inr (.inr (.inr ⟨h1, h2, h3, rfl⟩))⟩
          rw [if_neg hn, if_neg (fun h => h3 (pv.mpr h)), qs]
  obtain ⟨z, hq, hc, hl, hz⟩ := HZ
  refine ⟨z, hq, hc, hl, Lib.hid fun W0 hW0 => ?_⟩
  replace S0 := up S0 hW0
  replace Ab := up Ab hW0
  replace C1 := up C1 hW0
  replace O0 := up O0 hW0
  replace Sv := up Sv hW0
  replace Db := up Db hW0
  replace Ad := up Ad hW0
  have hI := (((In.start W0).alloc 25 #[.bool b.neg, .string b.num, .string b.den]).alloc 25 #[.bool v.neg, .string v.num, .string v.den]).alloc 25 #[.bool false, .string { data := #[] }, .string { data := #[] }]
  rw [World.size_alloc, World.size_alloc] at hI
  clear ps qa pc q0 hz0 pv qd qs hq hc hl hT hW0
  go_enter Tryd.func20, Tryd.ntmps20
  go_upto_region 1 with (fail)
  generalize World.alloc _ _ = W1 at hI ⊢
  rcases hz with ⟨h1, rfl⟩ | ⟨h1, h2, rfl⟩ | ⟨h1, h2, h3, rfl⟩ | ⟨h1, h2, h3, rfl⟩
  · refine wp_region_in hI (by kernel_rfl) (by kernel_rfl) ?_
    repeat (first
      | (refine wpSeq_off (by rfl) ?_; try simp only [Act.put, List.setIfInBounds_toArray, List.set_cons_zero, List.set_cons_succ])
      | (refine wpSeq_val (v := ?_) (by rfl) (fun W hS => ?_) ?_
         rotate_left
         · (have fx := hS.facts; simp only [factsOf, cellsOf, Nat.zero_add, Nat.reduceAdd] at fx; clear hS; go_simp; first | done | with_reducible rfl)
         try simp only [Act.put, List.setIfInBounds_toArray, List.set_cons_zero, List.set_cons_succ]))
    refine wpSeq_call (v := .int .i64 cs) (by rfl) (fun W hS => ?_) (fun W hS => (S0.out W hS.bel)) ?_
    · (clear hS; go_simp; done)
    try simp only [Act.put, List.setIfInBounds_toArray, List.set_cons_zero, List.set_cons_succ]
    repeat (first
      | (refine wpSeq_off (by rfl) ?_; try simp only [Act.put, List.setIfInBounds_toArray, List.set_cons_zero, List.set_cons_succ])
      | (refine wpSeq_val (v := ?_) (by rfl) (fun W hS => ?_) ?_
         rotate_left
         · (have fx := hS.facts; simp only [factsOf, cellsOf, Nat.zero_add, Nat.reduceAdd] at fx; clear hS; go_simp; first | done | with_reducible rfl)
         try simp only [Act.put, List.setIfInBounds_toArray, List.set_cons_zero, List.set_cons_succ]))
    refine wpSeq_nil (fun W hS => ?_)
    clear hI
    go_wp2_with fail
    refine (O0.out _ hS.bel).mono ?_
    rintro e wn ⟨rfl, hb⟩
    replace hS := hS.call hb
    clear hb
    have hS0 := hS.take (a := [_])
    have HK := Lib.hid ((hS.all3 (a := []) (.bool z.neg) (.string z.num) (.string z.den)))
    have hfx := hS0.facts
    simp only [factsOf, cellsOf, Nat.zero_add, Nat.reduceAdd] at hfx
    have hfz := fun i => hS0.free (k := 0) (i := i) rfl
    clear hS0 hS
    go_wp2_with fail
    clear hfx hfz
    have hK := HK.out
    clear HK
    generalize World.setCell _ _ _ = W9 at hK ⊢
    refine bodyPost_ret (results_cell_row Tryd.results20 _ _ (W0.heap.size + 1 + 1 ) 25 _ (0, 0) _ rfl (hK.blkAt (k := 0) rfl) Tryd.underlying25 rfl (by kernel_rfl)) rfl ?_
    exact ⟨rfl, hK.bel⟩
  · refine wp_region_in hI (by kernel_rfl) (by kernel_rfl) ?_
    repeat (first
      | (refine wpSeq_off (by rfl) ?_; try simp only [Act.put, List.setIfInBounds_toArray, List.set_cons_zero, List.set_cons_succ])
      | (refine wpSeq_val (v := ?_) (by rfl) (fun W hS => ?_) ?_
         rotate_left
         · (have fx := hS.facts; simp only [factsOf, cellsOf, Nat.zero_add, Nat.reduceAdd] at fx; clear hS; go_simp; first | done | with_reducible rfl)
         try simp only [Act.put, List.setIfInBounds_toArray, List.set_cons_zero, List.set_cons_succ]))
    refine wpSeq_call (v := .int .i64 cs) (by rfl) (fun W hS => ?_) (fun W hS => (S0.out W hS.bel)) ?_
    · (clear hS; go_simp; done)
    try simp only [Act.put, List.setIfInBounds_toArray, List.set_cons_zero, List.set_cons_succ]
    repeat (first
      | (refine wpSeq_off (by rfl) ?_; try simp only [Act.put, List.setIfInBounds_toArray, List.set_cons_zero, List.set_cons_succ])
      | (refine wpSeq_val (v := ?_) (by rfl) (fun W hS => ?_) ?_
         rotate_left
         · (have fx := hS.facts; simp only [factsOf, cellsOf, Nat.zero_add, Nat.reduceAdd] at fx; clear hS; go_simp; first | done | with_reducible rfl)
         try simp only [Act.put, List.setIfInBounds_toArray, List.set_cons_zero, List.set_cons_succ]))
    refine wpSeq_call (v := .agg #[.bool a.neg, .string a.num, .string a.den]) (by rfl) (fun W hS => ?_) (fun W hS => (Ab.out W hS.bel)) ?_
    · (clear hS; go_simp; done)
    try simp only [Act.put, List.setIfInBounds_toArray, List.set_cons_zero, List.set_cons_succ]
    repeat (first
      | (refine wpSeq_off (by rfl) ?_; try simp only [Act.put, List.setIfInBounds_toArray, List.set_cons_zero, List.set_cons_succ])
      | (refine wpSeq_val (v := ?_) (by rfl) (fun W hS => ?_) ?_
         rotate_left
         · (have fx := hS.facts; simp only [factsOf, cellsOf, Nat.zero_add, Nat.reduceAdd] at fx; clear hS; go_simp; first | done | with_reducible rfl)
         try simp only [Act.put, List.setIfInBounds_toArray, List.set_cons_zero, List.set_cons_succ]))
    refine wpSeq_call (v := .int .i64 c) (by rfl) (fun W hS => ?_) (fun W hS => (C1.out W hS.bel)) ?_
    · (clear hS; go_simp; done)
    try simp only [Act.put, List.setIfInBounds_toArray, List.set_cons_zero, List.set_cons_succ]
    repeat (first
      | (refine wpSeq_off (by rfl) ?_; try simp only [Act.put, List.setIfInBounds_toArray, List.set_cons_zero, List.set_cons_succ])
      | (refine wpSeq_val (v := ?_) (by rfl) (fun W hS => ?_) ?_
         rotate_left
         · (have fx := hS.facts; simp only [factsOf, cellsOf, Nat.zero_add, Nat.reduceAdd] at fx; clear hS; go_simp; first | done | with_reducible rfl)
         try simp only [Act.put, List.setIfInBounds_toArray, List.set_cons_zero, List.set_cons_succ]))
    refine wpSeq_nil (fun W hS => ?_)
    clear hI
    go_wp2_with fail
    refine (O0.out _ hS.bel).mono ?_
    rintro e wn ⟨rfl, hb⟩
    replace hS := hS.call hb
    clear hb
    have hS0 := hS.take (a := [_])
    have HK := Lib.hid ((hS.all3 (a := []) (.bool z.neg) (.string z.num) (.string z.den)))
    have hfx := hS0.facts
    simp only [factsOf, cellsOf, Nat.zero_add, Nat.reduceAdd] at hfx
    have hfz := fun i => hS0.free (k := 0) (i := i) rfl
    clear hS0 hS
    go_wp2_with fail
    clear hfx hfz
    have hK := HK.out
    clear HK
    generalize World.setCell _ _ _ = W9 at hK ⊢
    refine bodyPost_ret (results_cell_row Tryd.results20 _ _ (W0.heap.size + 1 + 1 ) 25 _ (0, 0) _ rfl (hK.blkAt (k := 0) rfl) Tryd.underlying25 rfl (by kernel_rfl)) rfl ?_
    exact ⟨rfl, hK.bel⟩
  · refine wp_region_in hI (by kernel_rfl) (by kernel_rfl) ?_
    repeat (first
      | (refine wpSeq_off (by rfl) ?_; try simp only [Act.put, List.setIfInBounds_toArray, List.set_cons_zero, List.set_cons_succ])
      | (refine wpSeq_val (v := ?_) (by rfl) (fun W hS => ?_) ?_
         rotate_left
         · (have fx := hS.facts; simp only [factsOf, cellsOf, Nat.zero_add, Nat.reduceAdd] at fx; clear hS; go_simp; first | done | with_reducible rfl)
         try simp only [Act.put, List.setIfInBounds_toArray, List.set_cons_zero, List.set_cons_succ]))
    refine wpSeq_call (v := .int .i64 cs) (by rfl) (fun W hS => ?_) (fun W hS => (S0.out W hS.bel)) ?_
    · (clear hS; go_simp; done)
    try simp only [Act.put, List.setIfInBounds_toArray, List.set_cons_zero, List.set_cons_succ]
    repeat (first
      | (refine wpSeq_off (by rfl) ?_; try simp only [Act.put, List.setIfInBounds_toArray, List.set_cons_zero, List.set_cons_succ])
      | (refine wpSeq_val (v := ?_) (by rfl) (fun W hS => ?_) ?_
         rotate_left
         · (have fx := hS.facts; simp only [factsOf, cellsOf, Nat.zero_add, Nat.reduceAdd] at fx; clear hS; go_simp; first | done | with_reducible rfl)
         try simp only [Act.put, List.setIfInBounds_toArray, List.set_cons_zero, List.set_cons_succ]))
    refine wpSeq_call (v := .agg #[.bool a.neg, .string a.num, .string a.den]) (by rfl) (fun W hS => ?_) (fun W hS => (Ab.out W hS.bel)) ?_
    · (clear hS; go_simp; done)
    try simp only [Act.put, List.setIfInBounds_toArray, List.set_cons_zero, List.set_cons_succ]
    repeat (first
      | (refine wpSeq_off (by rfl) ?_; try simp only [Act.put, List.setIfInBounds_toArray, List.set_cons_zero, List.set_cons_succ])
      | (refine wpSeq_val (v := ?_) (by rfl) (fun W hS => ?_) ?_
         rotate_left
         · (have fx := hS.facts; simp only [factsOf, cellsOf, Nat.zero_add, Nat.reduceAdd] at fx; clear hS; go_simp; first | done | with_reducible rfl)
         try simp only [Act.put, List.setIfInBounds_toArray, List.set_cons_zero, List.set_cons_succ]))
    refine wpSeq_call (v := .int .i64 c) (by rfl) (fun W hS => ?_) (fun W hS => (C1.out W hS.bel)) ?_
    · (clear hS; go_simp; done)
    try simp only [Act.put, List.setIfInBounds_toArray, List.set_cons_zero, List.set_cons_succ]
    repeat (first
      | (refine wpSeq_off (by rfl) ?_; try simp only [Act.put, List.setIfInBounds_toArray, List.set_cons_zero, List.set_cons_succ])
      | (refine wpSeq_val (v := ?_) (by rfl) (fun W hS => ?_) ?_
         rotate_left
         · (have fx := hS.facts; simp only [factsOf, cellsOf, Nat.zero_add, Nat.reduceAdd] at fx; clear hS; go_simp; first | done | with_reducible rfl)
         try simp only [Act.put, List.setIfInBounds_toArray, List.set_cons_zero, List.set_cons_succ]))
    refine wpSeq_nil (fun W hS => ?_)
    clear hI
    have fx := hS.facts
    simp only [factsOf, cellsOf, Nat.zero_add, Nat.reduceAdd] at fx
    go_wp2_with fail
    refine (Sv.out _ hS.bel).mono ?_
    rintro e wn ⟨rfl, hb⟩
    replace hS := hS.call hb
    clear hb
    clear fx
    have fx := hS.facts
    simp only [factsOf, cellsOf, Nat.zero_add, Nat.reduceAdd] at fx
    go_wp2_with fail
    refine (Db.out _ hS.bel).mono ?_
    rintro e wn ⟨rfl, hb⟩
    replace hS := hS.call hb
    clear hb
    clear fx
    have hS0 := hS.take (a := [_])
    have HK := Lib.hid ((hS.all3 (a := []) (.bool z.neg) (.string z.num) (.string z.den)))
    have hfx := hS0.facts
    simp only [factsOf, cellsOf, Nat.zero_add, Nat.reduceAdd] at hfx
    have hfz := fun i => hS0.free (k := 0) (i := i) rfl
    clear hS0 hS
    go_wp2_with fail
    clear hfx hfz
    have hK := HK.out
    clear HK
    generalize World.setCell _ _ _ = W9 at hK ⊢
    refine bodyPost_ret (results_cell_row Tryd.results20 _ _ (W0.heap.size + 1 + 1 ) 25 _ (0, 0) _ rfl (hK.blkAt (k := 0) rfl) Tryd.underlying25 rfl (by kernel_rfl)) rfl ?_
    exact ⟨rfl, hK.bel⟩
  · refine wp_region_in hI (by kernel_rfl) (by kernel_rfl) ?_
    repeat (first
      | (refine wpSeq_off (by rfl) ?_; try simp only [Act.put, List.setIfInBounds_toArray, List.set_cons_zero, List.set_cons_succ])
      | (refine wpSeq_val (v := ?_) (by rfl) (fun W hS => ?_) ?_
         rotate_left
         · (have fx := hS.facts; simp only [factsOf, cellsOf, Nat.zero_add, Nat.reduceAdd] at fx; clear hS; go_simp; first | done | with_reducible rfl)
         try simp only [Act.put, List.setIfInBounds_toArray, List.set_cons_zero, List.set_cons_succ]))
    refine wpSeq_call (v := .int .i64 cs) (by rfl) (fun W hS => ?_) (fun W hS => (S0.out W hS.bel)) ?_
    · (clear hS; go_simp; done)
    try simp only [Act.put, List.setIfInBounds_toArray, List.set_cons_zero, List.set_cons_succ]
    repeat (first
      | (refine wpSeq_off (by rfl) ?_; try simp only [Act.put, List.setIfInBounds_toArray, List.set_cons_zero, List.set_cons_succ])
      | (refine wpSeq_val (v := ?_) (by rfl) (fun W hS => ?_) ?_
         rotate_left
         · (have fx := hS.facts; simp only [factsOf, cellsOf, Nat.zero_add, Nat.reduceAdd] at fx; clear hS; go_simp; first | done | with_reducible rfl)
         try simp only [Act.put, List.setIfInBounds_toArray, List.set_cons_zero, List.set_cons_succ]))
    refine wpSeq_call (v := .agg #[.bool a.neg, .string a.num, .string a.den]) (by rfl) (fun W hS => ?_) (fun W hS => (Ab.out W hS.bel)) ?_
    · (clear hS; go_simp; done)
    try simp only [Act.put, List.setIfInBounds_toArray, List.set_cons_zero, List.set_cons_succ]
    repeat (first
      | (refine wpSeq_off (by rfl) ?_; try simp only [Act.put, List.setIfInBounds_toArray, List.set_cons_zero, List.set_cons_succ])
      | (refine wpSeq_val (v := ?_) (by rfl) (fun W hS => ?_) ?_
         rotate_left
         · (have fx := hS.facts; simp only [factsOf, cellsOf, Nat.zero_add, Nat.reduceAdd] at fx; clear hS; go_simp; first | done | with_reducible rfl)
         try simp only [Act.put, List.setIfInBounds_toArray, List.set_cons_zero, List.set_cons_succ]))
    refine wpSeq_call (v := .int .i64 c) (by rfl) (fun W hS => ?_) (fun W hS => (C1.out W hS.bel)) ?_
    · (clear hS; go_simp; done)
    try simp only [Act.put, List.setIfInBounds_toArray, List.set_cons_zero, List.set_cons_succ]
    repeat (first
      | (refine wpSeq_off (by rfl) ?_; try simp only [Act.put, List.setIfInBounds_toArray, List.set_cons_zero, List.set_cons_succ])
      | (refine wpSeq_val (v := ?_) (by rfl) (fun W hS => ?_) ?_
         rotate_left
         · (have fx := hS.facts; simp only [factsOf, cellsOf, Nat.zero_add, Nat.reduceAdd] at fx; clear hS; go_simp; first | done | with_reducible rfl)
         try simp only [Act.put, List.setIfInBounds_toArray, List.set_cons_zero, List.set_cons_succ]))
    refine wpSeq_nil (fun W hS => ?_)
    clear hI
    have fx := hS.facts
    simp only [factsOf, cellsOf, Nat.zero_add, Nat.reduceAdd] at fx
    go_wp2_with fail
    refine (Sv.out _ hS.bel).mono ?_
    rintro e wn ⟨rfl, hb⟩
    replace hS := hS.call hb
    clear hb
    clear fx
    have fx := hS.facts
    simp only [factsOf, cellsOf, Nat.zero_add, Nat.reduceAdd] at fx
    go_wp2_with fail
    refine (Ad.out _ hS.bel).mono ?_
    rintro e wn ⟨rfl, hb⟩
    replace hS := hS.call hb
    clear hb
    clear fx
    have hS0 := hS.take (a := [_])
    have HK := Lib.hid ((hS.all3 (a := []) (.bool z.neg) (.string z.num) (.string z.den)))
    have hfx := hS0.facts
    simp only [factsOf, cellsOf, Nat.zero_add, Nat.reduceAdd] at hfx
    have hfz := fun i => hS0.free (k := 0) (i := i) rfl
    clear hS0 hS
    go_wp2_with fail
    clear hfx hfz
    have hK := HK.out
    clear HK
    generalize World.setCell _ _ _ = W9 at hK ⊢
    refine bodyPost_ret (results_cell_row Tryd.results20 _ _ (W0.heap.size + 1 + 1 ) 25 _ (0, 0) _ rfl (hK.blkAt (k := 0) rfl) Tryd.underlying25 rfl (by kernel_rfl)) rfl ?_
    exact ⟨rfl, hK.bel⟩
/-- what stop.Ticks gives: how many ticks, or an error -/
def TicksIs (b v : Rat) (n e : Int) : Prop :=
  (b ≤ 0 ∧ n = 0 ∧ e = 1) ∨ (0 < b ∧ 2000 * b < absQ v ∧ n = 0 ∧ e = 2) ∨ (0 < b ∧ absQ v ≤ 2000 * b ∧ e = 0 ∧ 0 ≤ n ∧ n ≤ 2000 ∧ absQ v ≤ n * b ∧ ((n : Rat) - 1) * b < absQ v)
theorem absQ_nonneg (x : Rat) : 0 ≤ absQ x := by unfold absQ; split <;> grind
theorem ticks_law {b a : Rat} (hb : 0 < b) (ha : 0 ≤ a) : a / b * b = a ∧ (0 : Int) ≤ (a / b).floor ∧ ((a / b).floor : Rat) ≤ a / b ∧ a / b < (((a / b).floor : Int) : Rat) + 1 := by
  have hq : a / b * b = a := Rat.div_mul_cancel (by grind)
  have h0 : 0 ≤ a / b := Rat.not_lt.mp fun h => by
    have := Rat.mul_lt_mul_of_pos_right h hb
    rw [hq, Rat.zero_mul] at this
    grind
  have h1 := Rat.floor_le (a / b)
  have h2 := Rat.lt_floor_add_one (a / b)
  have h3 : ((0 : Int) : Rat) < (((a / b).floor + 1 : Int) : Rat) := Std.lt_of_le_of_lt h0 h2
  have h4 := Rat.intCast_lt_intCast.mp h3
  refine ⟨hq, by omega, h1, ?_⟩
  rw [Rat.intCast_add] at h2
  exact h2
theorem le_mulr {b a q f : Rat} (hb : 0 < b) (h : q * b = a) (h1 : q ≤ f) : a ≤ f * b := by
  have := Rat.mul_le_mul_of_nonneg_right h1 (Rat.le_of_lt hb)
  grind
theorem lt_mulr {b a q f : Rat} (hb : 0 < b) (h : q * b = a) (h1 : f < q) : f * b < a := by
  have := Rat.mul_lt_mul_of_pos_right h1 hb
  grind
theorem ticks_far {b v : Rat} {f : Int} (hb : 0 < b) (h : absQ v / b * b = absQ v) (h1 : (f : Rat) ≤ absQ v / b) (hf : 2000 < f) : TicksIs b v 0 2 := by
  refine .inr (.inl ⟨hb, lt_mulr hb h ?_, rfl, rfl⟩)
  have h2 : ((2000 : Int) : Rat) < (f : Rat) := Rat.intCast_lt_intCast.mpr hf
  exact Std.lt_of_lt_of_le h2 h1
theorem ticks_far1 {b v : Rat} {f : Int} (hb : 0 < b) (h : absQ v / b * b = absQ v) (h1 : (f : Rat) < absQ v / b) (hf : 2000 ≤ f) : TicksIs b v 0 2 := by
  refine .inr (.inl ⟨hb, lt_mulr hb h ?_, rfl, rfl⟩)
  have h2 : ((2000 : Int) : Rat) ≤ (f : Rat) := Rat.intCast_le_intCast.mpr hf
  exact Std.lt_of_le_of_lt h2 h1
theorem ticks_near {b v : Rat} {n : Int} (hb : 0 < b) (h : absQ v / b * b = absQ v) (h1 : absQ v / b ≤ (n : Rat)) (h2 : (n : Rat) < absQ v / b + 1) (h0 : 0 ≤ n) (hf : n ≤ 2000) : TicksIs b v n 0 := by
  have h3 : (n : Rat) ≤ ((2000 : Int) : Rat) := Rat.intCast_le_intCast.mpr hf
  exact .inr (.inr ⟨hb, le_mulr hb h (Rat.le_trans h1 h3), rfl, h0, hf, le_mulr hb h h1, lt_mulr hb h (by grind)⟩)
set_option maxRecDepth 100000 in
set_option maxHeartbeats 8000000 in
theorem ticksR (w : World) (hT : TabW w) (k : Lk) (v : Q3) {N M : Nat} (hv : v.le N) (hb : k.brake.le M) (hN : 1 ≤ N ∧ N ≤ 274877906944 ∧ 1 ≤ M ∧ M ≤ 274877906944 := by omega) :
    ∃ n e : Int, TicksIs k.brake.q v.q n e ∧ Hid (∀ W, Below w.heap.size w W → Calls Tryd.prog 17 #[.agg #[.bool k.len.neg, .string k.len.num, .string k.len.den, .bool k.low.neg, .string k.low.num, .string k.low.den, .bool k.high.neg, .string k.high.num, .string k.high.den, .bool k.speed.neg, .string k.speed.num, .string k.speed.den, .bool k.brake.neg, .string k.brake.num, .string k.brake.den, k.shape], .agg #[.bool v.neg, .string v.num, .string v.den]] W fun r w' => r = .returned (.tuple #[.int .i64 n, .int .i64 e]) ∧ Below W.heap.size W w') := by
  obtain ⟨cs, _, ps, _, S0⟩ := signR w hT k.brake hb
  by_cases hcs : cs ≤ 0
  · refine ⟨0, 1, .inl ⟨Rat.not_lt.mp fun h => by have := ps.mpr h; omega, rfl, rfl⟩, Lib.hid fun W0 hW0 => ?_⟩
    replace S0 := up S0 hW0
    have hI := ((In.start W0).alloc 28 #[.bool k.len.neg, .string k.len.num, .string k.len.den, .bool k.low.neg, .string k.low.num, .string k.low.den, .bool k.high.neg, .string k.high.num, .string k.high.den, .bool k.speed.neg, .string k.speed.num, .string k.speed.den, .bool k.brake.neg, .string k.brake.num, .string k.brake.den, k.shape]).alloc 25 #[.bool v.neg, .string v.num, .string v.den]
    rw [World.size_alloc] at hI
    clear ps hT hW0
    go_enter Tryd.func17, Tryd.ntmps17
    go_upto_region 1 with (fail)
    generalize World.alloc _ _ = W1 at hI ⊢
    have fx := hI.facts
    simp only [factsOf, cellsOf, Nat.zero_add, Nat.reduceAdd] at fx
    go_wp2_with fail
    refine (S0.out _ hI.bel).mono ?_
    rintro e wn ⟨rfl, hb⟩
    replace hI := hI.call hb
    clear hb
    clear fx
    go_wp2
    refine bodyPost_ret (results_tmp2 rfl _ _ _) rfl ?_
    exact ⟨rfl, hI.bel⟩
  · have hb0 : 0 < k.brake.q := ps.mp (by omega)
    obtain ⟨a, qa, _, la, Ab⟩ := absR w hT v hv
    obtain ⟨q, qq, cq, lq, Dv⟩ := divR w hT a k.brake la hb (by grind)
    obtain ⟨f, e, hf, he, Fl⟩ := floorR w hT q lq
    have hL := ticks_law hb0 (absQ_nonneg v.q)
    rw [qa] at qq
    rw [← qq] at hL
    obtain ⟨hq, hf0, hf1, hf2⟩ := hL
    have HQ : absQ v.q / k.brake.q * k.brake.q = absQ v.q := by rw [← qq]; exact hq
    -- the ways
    have HW : ∃ n e' : Int, TicksIs k.brake.q v.q n e' ∧ ((¬ e = 0 ∧ n = 0 ∧ e' = 2) ∨ (e = 0 ∧ f > 2000 ∧ n = 0 ∧ e' = 2) ∨ (e = 0 ∧ ¬ f > 2000 ∧ 0 ≤ f ∧ f = q.q.floor ∧ ∀ c : Int, (c < 0 ↔ (f : Rat) < q.q) → (c < 0 ∧ f + 1 > 2000 ∧ n = 0 ∧ e' = 2) ∨ (c < 0 ∧ ¬ f + 1 > 2000 ∧ n = f + 1 ∧ e' = 0) ∨ (¬ c < 0 ∧ ¬ f > 2000 ∧ n = f ∧ e' = 0))) := by
      unfold floorN at hf
      unfold floorE at he
      by_cases hbig : q.q.floor.natAbs ≤ 9223372036854775807
      · rw [if_pos hbig] at hf he
        subst hf
        have he0 : e = 0 := he
        by_cases h1 : q.q.floor > 2000
        · exact ⟨0, 2, ticks_far hb0 HQ (by rw [← qq]; exact hf1) h1, .inr (.inl ⟨he0, h1, rfl, rfl⟩)⟩
        · by_cases h2 : (q.q.floor : Rat) < q.q
          · by_cases h3 : q.q.floor + 1 > 2000
            · exact ⟨0, 2, ticks_far1 hb0 HQ (by rw [← qq]; exact h2) (by omega), .inr (.inr ⟨he0, h1, hf0, rfl, fun c hc => .inl ⟨hc.mpr h2, h3, rfl, rfl⟩⟩)⟩
            · refine ⟨q.q.floor + 1, 0, ticks_near hb0 HQ ?_ ?_ (by omega) (by omega), .inr (.inr ⟨he0, h1, hf0, rfl, fun c hc => .inr (.inl ⟨hc.mpr h2, h3, rfl, rfl⟩)⟩)⟩
              · rw [← qq, Rat.intCast_add]; exact Rat.le_of_lt hf2
              · rw [← qq, Rat.intCast_add]
                have : ((1 : Int) : Rat) = 1 := rfl
                grind
          · refine ⟨q.q.floor, 0, ticks_near hb0 HQ ?_ ?_ hf0 (by omega), .inr (.inr ⟨he0, h1, hf0, rfl, fun c hc => .inr (.inr ⟨fun h => h2 (hc.mp h), h1, rfl, rfl⟩)⟩)⟩
            · rw [← qq]; grind
            · rw [← qq]; grind
      · rw [if_neg hbig] at hf he
        have he0 : e = 2 := he
        exact ⟨0, 2, ticks_far hb0 HQ (by rw [← qq]; exact hf1) (by omega), .inl ⟨by omega, rfl, rfl⟩⟩
    obtain ⟨n, e', hTI, hW⟩ := HW
    refine ⟨n, e', hTI, Lib.hid fun W0 hW0 => ?_⟩
    have HT0 := Lib.hid (tabs w hT hW0)
    replace S0 := up S0 hW0
    replace Ab := up Ab hW0
    replace Dv := up Dv hW0
    replace Fl := up Fl hW0
    have HW := Lib.hid hW
    have hI := ((In.start W0).alloc 28 #[.bool k.len.neg, .string k.len.num, .string k.len.den, .bool k.low.neg, .string k.low.num, .string k.low.den, .bool k.high.neg, .string k.high.num, .string k.high.den, .bool k.speed.neg, .string k.speed.num, .string k.speed.den, .bool k.brake.neg, .string k.brake.num, .string k.brake.den, k.shape]).alloc 25 #[.bool v.neg, .string v.num, .string v.den]
    rw [World.size_alloc] at hI
    clear ps qa qq cq hf he hq hf0 hf1 hf2 HQ hTI hW hT hW0 hb0
    obtain ⟨ls, hls⟩ : ∃ ls : List (Nat × TypeId × Array Value), ls = [(W0.heap.size + 1, 25, #[.bool v.neg, .string v.num, .string v.den]), (W0.heap.size, 28, #[.bool k.len.neg, .string k.len.num, .string k.len.den, .bool k.low.neg, .string k.low.num, .string k.low.den, .bool k.high.neg, .string k.high.num, .string k.high.den, .bool k.speed.neg, .string k.speed.num, .string k.speed.den, .bool k.brake.neg, .string k.brake.num, .string k.brake.den, k.shape])] := ⟨_, rfl⟩
    have Hls := Lib.hid hls
    clear hls
    go_enter Tryd.func17, Tryd.ntmps17
    go_upto_region 1 with (fail)
    generalize World.alloc _ _ = W1 at hI ⊢
    have fx := hI.facts
    simp only [factsOf, cellsOf, Nat.zero_add, Nat.reduceAdd] at fx
    go_wp2_with fail
    refine (S0.out _ hI.bel).mono ?_
    rintro e wn ⟨rfl, hb⟩
    replace hI := hI.call hb
    clear hb
    clear fx
    go_upto_region 3 with (fail)
    go_cut [6, 7] (fun p c wx => ∃ gm, p = .pointer (some ⟨gm, 0, none⟩) ∧ c = .int .i64 0 ∧ In W0 ((gm, 25, #[.bool q.neg, .string q.num, .string q.den]) :: ls) wx)
    case first =>
      refine wp_region_in_late 8 [7] _ 25 #[.bool false, .string { data := #[] }, .string { data := #[] }] hI (by kernel_rfl) (by kernel_rfl) rfl ?_
      simp only [List.take_succ_cons, List.take_zero, List.drop_succ_cons, List.drop_zero]
      repeat (first
        | (refine wpSeqL_off (by rfl) ?_; try simp only [Act.put, List.setIfInBounds_toArray, List.set_cons_zero, List.set_cons_succ])
        | (refine wpSeqL_pure (v := ?_) (by rfl) (fun W => ?_) ?_
           rotate_left
           · (go_simp; first | done | with_reducible rfl)
           try simp only [Act.put, List.setIfInBounds_toArray, List.set_cons_zero, List.set_cons_succ])
        | (refine wpSeqL_val (v := ?_) (by rfl) (by rfl) (fun W hS => ?_) ?_
           rotate_left
           · (have fx := hS.facts; simp only [factsOf, cellsOf, Nat.zero_add, Nat.reduceAdd] at fx; clear hS; go_simp; first | done | with_reducible rfl)
           try simp only [Act.put, List.setIfInBounds_toArray, List.set_cons_zero, List.set_cons_succ]))
      refine wpSeqL_call (v := .agg #[.bool a.neg, .string a.num, .string a.den]) (by rfl) (by rfl) (fun W hS => ?_) (fun W hS => (Ab.out W hS.bel)) ?_
      · (clear hS; go_simp; done)
      try simp only [Act.put, List.setIfInBounds_toArray, List.set_cons_zero, List.set_cons_succ]
      repeat (first
        | (refine wpSeqL_off (by rfl) ?_; try simp only [Act.put, List.setIfInBounds_toArray, List.set_cons_zero, List.set_cons_succ])
        | (refine wpSeqL_pure (v := ?_) (by rfl) (fun W => ?_) ?_
           rotate_left
           · (go_simp; first | done | with_reducible rfl)
           try simp only [Act.put, List.setIfInBounds_toArray, List.set_cons_zero, List.set_cons_succ])
        | (refine wpSeqL_val (v := ?_) (by rfl) (by rfl) (fun W hS => ?_) ?_
           rotate_left
           · (have fx := hS.facts; simp only [factsOf, cellsOf, Nat.zero_add, Nat.reduceAdd] at fx; clear hS; go_simp; first | done | with_reducible rfl)
           try simp only [Act.put, List.setIfInBounds_toArray, List.set_cons_zero, List.set_cons_succ]))
      refine wpSeqL_call (v := .tuple #[.agg #[.bool q.neg, .string q.num, .string q.den], .int .i64 0]) (by rfl) (by rfl) (fun W hS => ?_) (fun W hS => (Dv.out W hS.bel)) ?_
      · (clear hS; go_simp; done)
      try simp only [Act.put, List.setIfInBounds_toArray, List.set_cons_zero, List.set_cons_succ]
      repeat (first
        | (refine wpSeqL_off (by rfl) ?_; try simp only [Act.put, List.setIfInBounds_toArray, List.set_cons_zero, List.set_cons_succ])
        | (refine wpSeqL_pure (v := ?_) (by rfl) (fun W => ?_) ?_
           rotate_left
           · (go_simp; first | done | with_reducible rfl)
           try simp only [Act.put, List.setIfInBounds_toArray, List.set_cons_zero, List.set_cons_succ])
        | (refine wpSeqL_val (v := ?_) (by rfl) (by rfl) (fun W hS => ?_) ?_
           rotate_left
           · (have fx := hS.facts; simp only [factsOf, cellsOf, Nat.zero_add, Nat.reduceAdd] at fx; clear hS; go_simp; first | done | with_reducible rfl)
           try simp only [Act.put, List.setIfInBounds_toArray, List.set_cons_zero, List.set_cons_succ]))
      refine wpSeqL_nil ⟨rfl, fun W hS => ?_, fun g W hI => ?_⟩
      · go_simp
      simp only [List.setIfInBounds_toArray, List.set_cons_zero, List.set_cons_succ]
      have hS1 := hI.take (a := [_])
      have fx := hS1.facts
      simp only [factsOf, cellsOf, Nat.zero_add, Nat.reduceAdd] at fx
      have hz := fun i => hS1.free (k := 0) (i := i) rfl
      have HX := Lib.hid (hI.all3 (a := []) (.bool q.neg) (.string q.num) (.string q.den))
      clear hS1 hI
      go_wp2_with fail
      refine NoPanic.normal ?_
      go_wp2_with fail
      go_meet
      exact ⟨g, rfl, rfl, by rw [Hls.out]; exact HX.out⟩
    case rest =>
      clear hI
      obtain ⟨gm, rfl, rfl, hI⟩ := hcut
      have fx := hI.facts
      simp only [factsOf, cellsOf, Nat.zero_add, Nat.reduceAdd] at fx
      rw [Hls.out] at hI
      go_wp2_with fail
      refine (Fl.out _ hI.bel).mono ?_
      rintro e wn ⟨rfl, hb⟩
      replace hI := hI.call hb
      clear hb
      clear fx
      rcases HW.out with ⟨h1, rfl, rfl⟩ | ⟨rfl, h1, rfl, rfl⟩ | ⟨rfl, h1, h0, hfl, hc⟩
      · go_wp2
        refine bodyPost_ret (results_tmp2 rfl _ _ _) rfl ?_
        exact ⟨rfl, hI.bel⟩
      · go_wp2
        refine bodyPost_ret (results_tmp2 rfl _ _ _) rfl ?_
        exact ⟨rfl, hI.bel⟩
      · obtain ⟨zf, qf, _, lf, Of⟩ := ofR W0 HT0.out f (by omega)
        obtain ⟨c, _, _, nc, Cm⟩ := cmpR W0 HT0.out zf q lf lq
        rw [qf] at nc
        have hw := hc c nc
        have hwr : IntKind.i64.wrap (f + 1) = f + 1 := by rw [IntKind.wrap_i64]; omega
        clear hc nc qf hfl HW
        go_upto_region 7 with (fail)
        refine wp_region_in hI (by kernel_rfl) (by kernel_rfl) ?_
        repeat (first
          | (refine wpSeq_off (by rfl) ?_; try simp only [Act.put, List.setIfInBounds_toArray, List.set_cons_zero, List.set_cons_succ])
          | (refine wpSeq_val (v := ?_) (by rfl) (fun W hS => ?_) ?_
             rotate_left
             · (have fx := hS.facts; simp only [factsOf, cellsOf, Nat.zero_add, Nat.reduceAdd] at fx; clear hS; go_simp; first | done | with_reducible rfl)
             try simp only [Act.put, List.setIfInBounds_toArray, List.set_cons_zero, List.set_cons_succ]))
        refine wpSeq_call (v := .agg #[.bool zf.neg, .string zf.num, .string zf.den]) (by rfl) (fun W hS => ?_) (fun W hS => (Of.out W hS.bel)) ?_
        · (clear hS; go_simp; done)
        try simp only [Act.put, List.setIfInBounds_toArray, List.set_cons_zero, List.set_cons_succ]
        repeat (first
          | (refine wpSeq_off (by rfl) ?_; try simp only [Act.put, List.setIfInBounds_toArray, List.set_cons_zero, List.set_cons_succ])
          | (refine wpSeq_val (v := ?_) (by rfl) (fun W hS => ?_) ?_
             rotate_left
             · (have fx := hS.facts; simp only [factsOf, cellsOf, Nat.zero_add, Nat.reduceAdd] at fx; clear hS; go_simp; first | done | with_reducible rfl)
             try simp only [Act.put, List.setIfInBounds_toArray, List.set_cons_zero, List.set_cons_succ]))
        refine wpSeq_call (v := .int .i64 c) (by rfl) (fun W hS => ?_) (fun W hS => (Cm.out W hS.bel)) ?_
        · (clear hS; go_simp; done)
        try simp only [Act.put, List.setIfInBounds_toArray, List.set_cons_zero, List.set_cons_succ]
        repeat (first
          | (refine wpSeq_off (by rfl) ?_; try simp only [Act.put, List.setIfInBounds_toArray, List.set_cons_zero, List.set_cons_succ])
          | (refine wpSeq_val (v := ?_) (by rfl) (fun W hS => ?_) ?_
             rotate_left
             · (have fx := hS.facts; simp only [factsOf, cellsOf, Nat.zero_add, Nat.reduceAdd] at fx; clear hS; go_simp; first | done | with_reducible rfl)
             try simp only [Act.put, List.setIfInBounds_toArray, List.set_cons_zero, List.set_cons_succ]))
        refine wpSeq_nil (fun W hS => ?_)
        clear hI
        rcases hw with ⟨h2, h3, rfl, rfl⟩ | ⟨h2, h3, rfl, rfl⟩ | ⟨h2, h3, rfl, rfl⟩
        · go_wp2
          refine bodyPost_ret (results_tmp2 rfl _ _ _) rfl ?_
          exact ⟨rfl, hS.bel⟩
        · go_wp2
          refine bodyPost_ret (results_tmp2 rfl _ _ _) rfl ?_
          exact ⟨rfl, hS.bel⟩
        · go_wp2
          refine bodyPost_ret (results_tmp2 rfl _ _ _) rfl ?_
          exact ⟨rfl, hS.bel⟩
end Go.Proofs.YtnnbnecpcppkdaaDoor
