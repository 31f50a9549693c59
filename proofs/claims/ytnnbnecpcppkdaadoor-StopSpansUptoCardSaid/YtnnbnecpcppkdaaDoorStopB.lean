/- stop.Way. Conditions: those typed. -/
import Derived.Test.YtnnbnecpcppkdaaDoorStopA
namespace Go.Proofs.YtnnbnecpcppkdaaDoor
open Go.RowKit Go.Gy
set_option linter.unusedVariables false
def nilQ3 : Q3 := ⟨false, { data := #[] }, { data := #[] }⟩
/-- stop.Way, where n ticks are wanted -/
def wayQ (b v : Rat) (n : Int) : Rat :=
  if n < 2 then 0 else if v < 0 then -(((n - 1 : Int) : Rat) * absQ v - b * ((n * (n - 1) / 2 : Int) : Rat)) else ((n - 1 : Int) : Rat) * absQ v - b * ((n * (n - 1) / 2 : Int) : Rat)
set_option maxRecDepth 100000 in
set_option maxHeartbeats 8000000 in
theorem wayR (w : World) (hT : TabW w) (k : Lk) (v : Q3) {N M : Nat} (hv : v.le N) (hb : k.brake.le M) (hN : 1 ≤ N ∧ N ≤ 274877906944 ∧ 1 ≤ M ∧ M ≤ 274877906944 := by omega) :
    ∃ (n e : Int) (z : Q3), TicksIs k.brake.q v.q n e ∧ (e ≠ 0 → z = nilQ3) ∧ (e = 0 → z.q = wayQ k.brake.q v.q n ∧ z.can) ∧ z.le (N + M + 17) ∧
    Hid (∀ W, Below w.heap.size w W → Calls Tryd.prog 17 #[.agg #[.bool k.len.neg, .string k.len.num, .string k.len.den, .bool k.low.neg, .string k.low.num, .string k.low.den, .bool k.high.neg, .string k.high.num, .string k.high.den, .bool k.speed.neg, .string k.speed.num, .string k.speed.den, .bool k.brake.neg, .string k.brake.num, .string k.brake.den, k.shape], .agg #[.bool v.neg, .string v.num, .string v.den]] W fun r w' => r = .returned (.tuple #[.int .i64 n, .int .i64 e]) ∧ Below W.heap.size W w') ∧
    Hid (∀ W, Below w.heap.size w W → Calls Tryd.prog 19 #[.agg #[.bool k.len.neg, .string k.len.num, .string k.len.den, .bool k.low.neg, .string k.low.num, .string k.low.den, .bool k.high.neg, .string k.high.num, .string k.high.den, .bool k.speed.neg, .string k.speed.num, .string k.speed.den, .bool k.brake.neg, .string k.brake.num, .string k.brake.den, k.shape], .agg #[.bool v.neg, .string v.num, .string v.den]] W fun r w' => r = .returned (.tuple #[.agg #[.bool z.neg, .string z.num, .string z.den], .int .i64 e]) ∧ Below W.heap.size W w') := by
  obtain ⟨n, e, hTI, TK⟩ := ticksR w hT k v hv hb
  have T0 := TK
  by_cases he : e = 0
  · subst he
    obtain ⟨hb0, _, _, hn0, hn1, _, _⟩ : 0 < k.brake.q ∧ absQ v.q ≤ 2000 * k.brake.q ∧ (0 : Int) = 0 ∧ 0 ≤ n ∧ n ≤ 2000 ∧ absQ v.q ≤ n * k.brake.q ∧ ((n : Rat) - 1) * k.brake.q < absQ v.q := by
      rcases hTI with ⟨_, _, h⟩ | ⟨_, _, _, h⟩ | h
      · exact absurd h (by decide)
      · exact absurd h (by decide)
      · exact h
    by_cases hn2 : n < 2
    · obtain ⟨z, qz, cz, lz, Oz⟩ := ofR w hT 0
      refine ⟨n, 0, z, hTI, fun h => absurd rfl h, fun _ => ⟨by unfold wayQ; rw [if_pos hn2, qz]; rfl, cz⟩, lz.more (by omega), T0, Lib.hid fun W0 hW0 => ?_⟩
      replace TK := up TK hW0
      replace Oz := up Oz hW0
      have hI := (((In.start W0).alloc 28 #[.bool k.len.neg, .string k.len.num, .string k.len.den, .bool k.low.neg, .string k.low.num, .string k.low.den, .bool k.high.neg, .string k.high.num, .string k.high.den, .bool k.speed.neg, .string k.speed.num, .string k.speed.den, .bool k.brake.neg, .string k.brake.num, .string k.brake.den, k.shape]).alloc 25 #[.bool v.neg, .string v.num, .string v.den]).alloc 25 #[.bool false, .string { data := #[] }, .string { data := #[] }]
      rw [World.size_alloc, World.size_alloc] at hI
      clear hTI qz cz lz hT hW0 T0
      go_enter Tryd.func19, Tryd.ntmps19
      go_upto_region 1 with (fail)
      generalize World.alloc _ _ = W1 at hI ⊢
      have fx := hI.facts
      simp only [factsOf, cellsOf, Nat.zero_add, Nat.reduceAdd] at fx
      go_wp2_with fail
      refine (TK.out _ hI.bel).mono ?_
      rintro e wn ⟨rfl, hb⟩
      replace hI := hI.call hb
      clear hb
      clear fx
      go_wp2_with fail
      refine (Oz.out _ hI.bel).mono ?_
      rintro e wn ⟨rfl, hb⟩
      replace hI := hI.call hb
      clear hb
      have hS0 := hI.take (a := [_])
      have HK := Lib.hid ((hI.all3 (a := []) (.bool z.neg) (.string z.num) (.string z.den)))
      have hfx := hS0.facts
      simp only [factsOf, cellsOf, Nat.zero_add, Nat.reduceAdd] at hfx
      have hfz := fun i => hS0.free (k := 0) (i := i) rfl
      clear hS0 hI
      go_wp2_with fail
      clear hfx hfz
      have hK := HK.out
      clear HK
      generalize World.setCell _ _ _ = W9 at hK ⊢
      refine bodyPost_ret (results_cell_two Tryd.results19 _ _ (W0.heap.size + 1 + 1 ) 25 _ (0, 0) _ _ rfl rfl (hK.blkAt (k := 0) rfl) Tryd.underlying25 rfl (by kernel_rfl)) rfl ?_
      exact ⟨rfl, hK.bel⟩
    · obtain ⟨c, hc⟩ : ∃ c, c = n - 1 := ⟨_, rfl⟩
      obtain ⟨m, hm⟩ : ∃ m, m = n * (n - 1) / 2 := ⟨_, rfl⟩
      have hp0 : 0 ≤ n * (n - 1) := Int.mul_nonneg hn0 (by omega)
      have hp1 : n * (n - 1) ≤ 2000 * 2000 := Int.mul_le_mul hn1 (by omega) (by omega) (by omega)
      have hm0 : 0 ≤ m ∧ m ≤ 2000000 := by omega
      obtain ⟨z1, q1, _, l1, O1⟩ := ofR w hT c (by omega)
      obtain ⟨a, qa, _, la, Ab⟩ := absR w hT v hv
      obtain ⟨f, qf, _, lf, M1⟩ := mulR w hT z1 a l1 la
      obtain ⟨z2, q2, _, l2, O2⟩ := ofR w hT m (by omega)
      obtain ⟨g, qg, _, lg, M2⟩ := mulR w hT k.brake z2 hb l2
      obtain ⟨d, qd, cd, ld, Sb⟩ := subR w hT f g lf lg
      obtain ⟨cv, _, _, pv, Sv⟩ := signR w hT v hv
      obtain ⟨o, qo, co, lo, Ng⟩ := negR w hT d ld
      have HD : d.q = ((n - 1 : Int) : Rat) * absQ v.q - k.brake.q * ((n * (n - 1) / 2 : Int) : Rat) := by rw [qd, qf, qg, q1, qa, q2, hc, hm]
      have hw1 : IntKind.i64.wrap (n - 1) = c := by rw [IntKind.wrap_i64]; omega
      have hwc : n * (n - 1) = n * c := by rw [hc]
      have hw2 : IntKind.i64.wrap (n * c) = n * c := by rw [← hwc, IntKind.wrap_i64]; omega
      have hw3 : (n * c).tdiv 2 = m := by rw [← hwc, hm]; exact Int.tdiv_eq_ediv_of_nonneg hp0
      have hw4 : IntKind.i64.wrap m = m := by rw [IntKind.wrap_i64]; omega
      obtain ⟨z, hz, hzq, hzc, hzl⟩ : ∃ z : Q3, ((cv < 0 ∧ z = o) ∨ (¬ cv < 0 ∧ z = d)) ∧ z.q = wayQ k.brake.q v.q n ∧ z.can ∧ z.le (N + M + 17) := by
        unfold wayQ
        by_cases h : cv < 0
        · exact ⟨o, .inl ⟨h, rfl⟩, by rw [if_neg hn2, if_pos (pv.mp h), qo, HD], co, lo.more (by omega)⟩
        · exact ⟨d, .inr ⟨h, rfl⟩, by rw [if_neg hn2, if_neg (fun h1 => h (pv.mpr h1)), HD], cd, ld.more (by omega)⟩
      refine ⟨n, 0, z, hTI, fun h => absurd rfl h, fun _ => ⟨hzq, hzc⟩, hzl, T0, Lib.hid fun W0 hW0 => ?_⟩
      replace TK := up TK hW0
      replace O1 := up O1 hW0
      replace Ab := up Ab hW0
      replace M1 := up M1 hW0
      replace O2 := up O2 hW0
      replace M2 := up M2 hW0
      replace Sb := up Sb hW0
      replace Sv := up Sv hW0
      replace Ng := up Ng hW0
      have hI := (((In.start W0).alloc 28 #[.bool k.len.neg, .string k.len.num, .string k.len.den, .bool k.low.neg, .string k.low.num, .string k.low.den, .bool k.high.neg, .string k.high.num, .string k.high.den, .bool k.speed.neg, .string k.speed.num, .string k.speed.den, .bool k.brake.neg, .string k.brake.num, .string k.brake.den, k.shape]).alloc 25 #[.bool v.neg, .string v.num, .string v.den]).alloc 25 #[.bool false, .string { data := #[] }, .string { data := #[] }]
      rw [World.size_alloc, World.size_alloc] at hI
      clear hTI hT hW0 T0 q1 qa qf q2 qg qd cd pv qo co HD hzq hzc hzl hwc hp0 hp1 hc hm
      go_enter Tryd.func19, Tryd.ntmps19
      go_upto_region 1 with (fail)
      generalize World.alloc _ _ = W1 at hI ⊢
      have fx := hI.facts
      simp only [factsOf, cellsOf, Nat.zero_add, Nat.reduceAdd] at fx
      go_wp2_with fail
      refine (TK.out _ hI.bel).mono ?_
      rintro e wn ⟨rfl, hb⟩
      replace hI := hI.call hb
      clear hb
      clear fx
      go_upto_region 6 with (fail)
      refine wp_region_in_float 16 _ 25 #[.bool false, .string { data := #[] }, .string { data := #[] }] hI (by kernel_rfl) (by kernel_rfl) rfl ?_
      simp only [List.take_succ_cons, List.take_zero, List.drop_succ_cons, List.drop_zero]
      repeat (first
        | (refine wpSeq_off (by rfl) ?_; try simp only [Act.put, List.setIfInBounds_toArray, List.set_cons_zero, List.set_cons_succ])
        | (refine wpSeq_val (v := ?_) (by rfl) (fun W hS => ?_) ?_
           rotate_left
           · (have fx := hS.facts; simp only [factsOf, cellsOf, Nat.zero_add, Nat.reduceAdd] at fx; clear hS; go_simp; first | done | with_reducible rfl)
           try simp only [Act.put, List.setIfInBounds_toArray, List.set_cons_zero, List.set_cons_succ]))
      refine wpSeq_call (v := .agg #[.bool z1.neg, .string z1.num, .string z1.den]) (by rfl) (fun W hS => ?_) (fun W hS => (O1.out W hS.bel)) ?_
      · (clear hS; go_simp; done)
      try simp only [Act.put, List.setIfInBounds_toArray, List.set_cons_zero, List.set_cons_succ]
      repeat (first
        | (refine wpSeq_off (by rfl) ?_; try simp only [Act.put, List.setIfInBounds_toArray, List.set_cons_zero, List.set_cons_succ])
        | (refine wpSeq_val (v := ?_) (by rfl) (fun W hS => ?_) ?_
           rotate_left
           · (have fx := hS.facts; simp only [factsOf, cellsOf, Nat.zero_add, Nat.reduceAdd] at fx; clear hS; go_simp; first | done | with_reducible rfl)
           try simp only [Act.put, List.setIfInBounds_toArray, List.set_cons_zero, List.set_cons_succ]))
      refine wpSeq_call (v := .agg #[.bool a.neg, .string a.num, .string a.den]) (by rfl) (fun W hS => ?_) (fun W hS => (Ab.out W hS.bel)) ?_
      · (clear hS; go_simp; done)
      try simp only [Act.put, List.setIfInBounds_toArray, List.set_cons_zero, List.set_cons_succ]
      repeat (first
        | (refine wpSeq_off (by rfl) ?_; try simp only [Act.put, List.setIfInBounds_toArray, List.set_cons_zero, List.set_cons_succ])
        | (refine wpSeq_val (v := ?_) (by rfl) (fun W hS => ?_) ?_
           rotate_left
           · (have fx := hS.facts; simp only [factsOf, cellsOf, Nat.zero_add, Nat.reduceAdd] at fx; clear hS; go_simp; first | done | with_reducible rfl)
           try simp only [Act.put, List.setIfInBounds_toArray, List.set_cons_zero, List.set_cons_succ]))
      refine wpSeq_call (v := .agg #[.bool f.neg, .string f.num, .string f.den]) (by rfl) (fun W hS => ?_) (fun W hS => (M1.out W hS.bel)) ?_
      · (clear hS; go_simp; done)
      try simp only [Act.put, List.setIfInBounds_toArray, List.set_cons_zero, List.set_cons_succ]
      repeat (first
        | (refine wpSeq_off (by rfl) ?_; try simp only [Act.put, List.setIfInBounds_toArray, List.set_cons_zero, List.set_cons_succ])
        | (refine wpSeq_val (v := ?_) (by rfl) (fun W hS => ?_) ?_
           rotate_left
           · (have fx := hS.facts; simp only [factsOf, cellsOf, Nat.zero_add, Nat.reduceAdd] at fx; clear hS; go_simp; first | done | with_reducible rfl)
           try simp only [Act.put, List.setIfInBounds_toArray, List.set_cons_zero, List.set_cons_succ]))
      refine wpSeq_call (v := .agg #[.bool z2.neg, .string z2.num, .string z2.den]) (by rfl) (fun W hS => ?_) (fun W hS => (O2.out W hS.bel)) ?_
      · (clear hS; go_simp; done)
      try simp only [Act.put, List.setIfInBounds_toArray, List.set_cons_zero, List.set_cons_succ]
      repeat (first
        | (refine wpSeq_off (by rfl) ?_; try simp only [Act.put, List.setIfInBounds_toArray, List.set_cons_zero, List.set_cons_succ])
        | (refine wpSeq_val (v := ?_) (by rfl) (fun W hS => ?_) ?_
           rotate_left
           · (have fx := hS.facts; simp only [factsOf, cellsOf, Nat.zero_add, Nat.reduceAdd] at fx; clear hS; go_simp; first | done | with_reducible rfl)
           try simp only [Act.put, List.setIfInBounds_toArray, List.set_cons_zero, List.set_cons_succ]))
      refine wpSeq_call (v := .agg #[.bool g.neg, .string g.num, .string g.den]) (by rfl) (fun W hS => ?_) (fun W hS => (M2.out W hS.bel)) ?_
      · (clear hS; go_simp; done)
      try simp only [Act.put, List.setIfInBounds_toArray, List.set_cons_zero, List.set_cons_succ]
      repeat (first
        | (refine wpSeq_off (by rfl) ?_; try simp only [Act.put, List.setIfInBounds_toArray, List.set_cons_zero, List.set_cons_succ])
        | (refine wpSeq_val (v := ?_) (by rfl) (fun W hS => ?_) ?_
           rotate_left
           · (have fx := hS.facts; simp only [factsOf, cellsOf, Nat.zero_add, Nat.reduceAdd] at fx; clear hS; go_simp; first | done | with_reducible rfl)
           try simp only [Act.put, List.setIfInBounds_toArray, List.set_cons_zero, List.set_cons_succ]))
      refine wpSeq_call (v := .agg #[.bool d.neg, .string d.num, .string d.den]) (by rfl) (fun W hS => ?_) (fun W hS => (Sb.out W hS.bel)) ?_
      · (clear hS; go_simp; done)
      try simp only [Act.put, List.setIfInBounds_toArray, List.set_cons_zero, List.set_cons_succ]
      repeat (first
        | (refine wpSeq_off (by rfl) ?_; try simp only [Act.put, List.setIfInBounds_toArray, List.set_cons_zero, List.set_cons_succ])
        | (refine wpSeq_val (v := ?_) (by rfl) (fun W hS => ?_) ?_
           rotate_left
           · (have fx := hS.facts; simp only [factsOf, cellsOf, Nat.zero_add, Nat.reduceAdd] at fx; clear hS; go_simp; first | done | with_reducible rfl)
           try simp only [Act.put, List.setIfInBounds_toArray, List.set_cons_zero, List.set_cons_succ]))
      refine wpSeq_nil ⟨rfl, fun W hS => ?_, fun g W hI => ?_⟩
      · go_simp
      simp only [List.setIfInBounds_toArray, List.set_cons_zero, List.set_cons_succ]
      have hS1 := hI.take (a := [_])
      have fx := hS1.facts
      simp only [factsOf, cellsOf, Nat.zero_add, Nat.reduceAdd] at fx
      have hfz := fun i => hS1.free (k := 0) (i := i) rfl
      have HX := Lib.hid (hI.all3 (a := []) (.bool d.neg) (.string d.num) (.string d.den))
      clear hS1 hI
      go_upto_region 7 with (fail)
      have hI : In W0 (_ :: _) _ := HX.out
      clear HX fx hfz
      generalize World.setCell _ _ _ = W2 at hI ⊢
      have fx := hI.facts
      simp only [factsOf, cellsOf, Nat.zero_add, Nat.reduceAdd] at fx
      go_wp2_with fail
      refine (Sv.out _ hI.bel).mono ?_
      rintro e wn ⟨rfl, hb⟩
      replace hI := hI.call hb
      clear hb
      clear fx
      rcases hz with ⟨h1, rfl⟩ | ⟨h1, rfl⟩
      · have fx := hI.facts
        simp only [factsOf, cellsOf, Nat.zero_add, Nat.reduceAdd] at fx
        go_wp2_with fail
        refine (Ng.out _ hI.bel).mono ?_
        rintro e wn ⟨rfl, hb⟩
        replace hI := hI.call hb
        clear hb
        clear fx
        have hS1 := hI.take (a := [_])
        have fx := hS1.facts
        simp only [factsOf, cellsOf, Nat.zero_add, Nat.reduceAdd] at fx
        have hfz := fun i => hS1.free (k := 0) (i := i) rfl
        have HX := Lib.hid (hI.all3 (a := []) (.bool z.neg) (.string z.num) (.string z.den))
        clear hS1 hI
        go_upto_region 9 with (fail)
        have hI : In W0 (_ :: _) _ := HX.out
        clear HX fx hfz
        generalize World.setCell _ _ _ = W3 at hI ⊢
        have fx := hI.facts
        simp only [factsOf, cellsOf, Nat.zero_add, Nat.reduceAdd] at fx
        have hJ := hI.tail
        clear hI
        have hS0 := hJ.take (a := [_])
        have HK := Lib.hid ((hJ.all3 (a := []) (.bool z.neg) (.string z.num) (.string z.den)))
        have hfx := hS0.facts
        simp only [factsOf, cellsOf, Nat.zero_add, Nat.reduceAdd] at hfx
        have hfz := fun i => hS0.free (k := 0) (i := i) rfl
        clear hS0 hJ
        go_wp2_with fail
        clear hfx hfz
        have hK := HK.out
        clear HK
        generalize World.setCell _ _ _ = W9 at hK ⊢
        refine bodyPost_ret (results_cell_two Tryd.results19 _ _ (W0.heap.size + 1 + 1 ) 25 _ (0, 0) _ _ rfl rfl (hK.blkAt (k := 0) rfl) Tryd.underlying25 rfl (by kernel_rfl)) rfl ?_
        exact ⟨rfl, hK.bel⟩
      · have fx := hI.facts
        simp only [factsOf, cellsOf, Nat.zero_add, Nat.reduceAdd] at fx
        have hJ := hI.tail
        clear hI
        have hS0 := hJ.take (a := [_])
        have HK := Lib.hid ((hJ.all3 (a := []) (.bool z.neg) (.string z.num) (.string z.den)))
        have hfx := hS0.facts
        simp only [factsOf, cellsOf, Nat.zero_add, Nat.reduceAdd] at hfx
        have hfz := fun i => hS0.free (k := 0) (i := i) rfl
        clear hS0 hJ
        go_wp2_with fail
        clear hfx hfz
        have hK := HK.out
        clear HK
        generalize World.setCell _ _ _ = W9 at hK ⊢
        refine bodyPost_ret (results_cell_two Tryd.results19 _ _ (W0.heap.size + 1 + 1 ) 25 _ (0, 0) _ _ rfl rfl (hK.blkAt (k := 0) rfl) Tryd.underlying25 rfl (by kernel_rfl)) rfl ?_
        exact ⟨rfl, hK.bel⟩
  · obtain ⟨z, hz⟩ : ∃ z, z = nilQ3 := ⟨_, rfl⟩
    have h0 : (e == 0) = false := by simpa using he
    refine ⟨n, e, z, hTI, fun _ => hz, fun h => absurd h he, by subst hz; exact ⟨Nat.zero_le _, Nat.zero_le _⟩, T0, Lib.hid fun W0 hW0 => ?_⟩
    replace TK := up TK hW0
    have hI := (((In.start W0).alloc 28 #[.bool k.len.neg, .string k.len.num, .string k.len.den, .bool k.low.neg, .string k.low.num, .string k.low.den, .bool k.high.neg, .string k.high.num, .string k.high.den, .bool k.speed.neg, .string k.speed.num, .string k.speed.den, .bool k.brake.neg, .string k.brake.num, .string k.brake.den, k.shape]).alloc 25 #[.bool v.neg, .string v.num, .string v.den]).alloc 25 #[.bool false, .string { data := #[] }, .string { data := #[] }]
    rw [World.size_alloc, World.size_alloc] at hI
    clear hTI hT hW0 T0
    subst hz
    go_enter Tryd.func19, Tryd.ntmps19
    go_upto_region 1 with (fail)
    generalize World.alloc _ _ = W1 at hI ⊢
    have fx := hI.facts
    simp only [factsOf, cellsOf, Nat.zero_add, Nat.reduceAdd] at fx
    go_wp2_with fail
    refine (TK.out _ hI.bel).mono ?_
    rintro e wn ⟨rfl, hb⟩
    replace hI := hI.call hb
    clear hb
    clear fx
    have hS0 := hI.take (a := [_])
    have HK := Lib.hid ((hI.all3 (a := []) (.bool false) (.string { data := #[] }) (.string { data := #[] })))
    have hfx := hS0.facts
    simp only [factsOf, cellsOf, Nat.zero_add, Nat.reduceAdd] at hfx
    have hfz := fun i => hS0.free (k := 0) (i := i) rfl
    clear hS0 hI
    go_wp2_with fail
    clear hfx hfz
    have hK := HK.out
    clear HK
    generalize World.setCell _ _ _ = W9 at hK ⊢
    refine bodyPost_ret (results_cell_two Tryd.results19 _ _ (W0.heap.size + 1 + 1 ) 25 _ (0, 0) _ _ rfl rfl (hK.blkAt (k := 0) rfl) Tryd.underlying25 rfl (by kernel_rfl)) rfl ?_
    exact ⟨rfl, hK.bel⟩
end Go.Proofs.YtnnbnecpcppkdaaDoor
