/- stop.Fast. Conditions: those typed. -/
import Derived.Test.YtnnbnecpcppkdaaDoorFast
import Derived.Deep.DeepCutAuto
namespace Go.Proofs.YtnnbnecpcppkdaaDoor
open Go.RowKit Go.Gy
set_option linter.unusedVariables false
/-- what stop.Fast gives -/
def FastIs (b lo hi sp q : Rat) (way : Int) (x : Q3) (e : Int) : Prop :=
  (((way ≠ 1 ∧ way ≠ -1) ∨ b ≤ 0 ∨ sp ≤ 0) ∧ x = nilQ3 ∧ e = 1) ∨
  ((way = 1 ∨ way = -1) ∧ 0 < b ∧ 0 < sp ∧ (floorE (sp * ((64 : Int) : Rat)) ≠ 0 ∨ 6400 < floorN (sp * ((64 : Int) : Rat))) ∧ x = nilQ3 ∧ e = 2) ∨
  ((way = 1 ∨ way = -1) ∧ 0 < b ∧ 0 < sp ∧ floorE (sp * ((64 : Int) : Rat)) = 0 ∧ floorN (sp * ((64 : Int) : Rat)) ≤ 6400 ∧ e = 0 ∧ x.can ∧ x.le 16 ∧
    ∃ a : Int, 0 ≤ a ∧ a ≤ floorN (sp * ((64 : Int) : Rat)) ∧ x.q = (a : Rat) / ((64 : Int) : Rat) ∧ (a = 0 ∨ FitP b lo hi q (((a * way : Int) : Rat) / ((64 : Int) : Rat))) ∧
      (a = floorN (sp * ((64 : Int) : Rat)) ∨ ¬ FitP b lo hi q ((((a + 1) * way : Int) : Rat) / ((64 : Int) : Rat))))
def FaRel (w : World) (ls : List (Nat × TypeId × Array Value)) (T : Int → Bool) (n : Int) (low high : Value) (wr : World) : Prop :=
  ∃ a b : Int, low = .int .i64 a ∧ high = .int .i64 b ∧ 0 ≤ a ∧ a ≤ b ∧ b ≤ n ∧ (a = 0 ∨ T a = true) ∧ (b = n ∨ T (b + 1) = false) ∧ In w ls wr
set_option maxRecDepth 100000 in
set_option maxHeartbeats 8000000 in
theorem fast_any (w : World) (hT : TabW w) (k : Lk) (q : Q3) (way : Int) {N : Nat} (hk : k.le N) (hq : q.le N) (hN : 1 ≤ N ∧ N ≤ 67108864) (hway : -9223372036854775808 ≤ way ∧ way ≤ 9223372036854775807) :
    Calls Tryd.prog 40 #[.agg #[.bool k.len.neg, .string k.len.num, .string k.len.den, .bool k.low.neg, .string k.low.num, .string k.low.den, .bool k.high.neg, .string k.high.num, .string k.high.den, .bool k.speed.neg, .string k.speed.num, .string k.speed.den, .bool k.brake.neg, .string k.brake.num, .string k.brake.den, k.shape], .agg #[.bool q.neg, .string q.num, .string q.den], .int .i64 way] w fun r w' => ∃ (x : Q3) (e : Int), r = .returned (.tuple #[.agg #[.bool x.neg, .string x.num, .string x.den], .int .i64 e]) ∧ FastIs k.brake.q k.low.q k.high.q k.speed.q q.q way x e ∧ Below w.heap.size w w' := by
  have HT := Lib.hid hT
  have HK := Lib.hid hk
  have HQ := Lib.hid hq
  obtain ⟨_, _, _, ksp, kb⟩ := hk
  obtain ⟨cb, _, pb, _, SB⟩ := signR w hT k.brake kb
  obtain ⟨cs, _, ps, _, SS⟩ := signR w hT k.speed ksp
  have hI := (((In.start w).alloc 28 #[.bool k.len.neg, .string k.len.num, .string k.len.den, .bool k.low.neg, .string k.low.num, .string k.low.den, .bool k.high.neg, .string k.high.num, .string k.high.den, .bool k.speed.neg, .string k.speed.num, .string k.speed.den, .bool k.brake.neg, .string k.brake.num, .string k.brake.den, k.shape]).alloc 25 #[.bool q.neg, .string q.num, .string q.den]).alloc 25 #[.bool false, .string { data := #[] }, .string { data := #[] }]
  rw [World.size_alloc, World.size_alloc] at hI
  obtain ⟨ls, hls⟩ : ∃ ls : List (Nat × TypeId × Array Value), ls = [(w.heap.size + 1 + 1, 25, #[.bool false, .string { data := #[] }, .string { data := #[] }]), (w.heap.size + 1, 25, #[.bool q.neg, .string q.num, .string q.den]), (w.heap.size, 28, #[.bool k.len.neg, .string k.len.num, .string k.len.den, .bool k.low.neg, .string k.low.num, .string k.low.den, .bool k.high.neg, .string k.high.num, .string k.high.den, .bool k.speed.neg, .string k.speed.num, .string k.speed.den, .bool k.brake.neg, .string k.brake.num, .string k.brake.den, k.shape])] := ⟨_, rfl⟩
  have Hls := Lib.hid hls
  have hW : ∃ bad : Bool, (bad = true ↔ ((way ≠ 1 ∧ way ≠ -1) ∨ k.brake.q ≤ 0 ∨ k.speed.q ≤ 0)) ∧ ((bad = true ∧ way ≠ 1 ∧ way ≠ -1) ∨ ((way = 1 ∨ way = -1) ∧ bad = true ∧ cb ≤ 0) ∨ ((way = 1 ∨ way = -1) ∧ bad = true ∧ ¬ cb ≤ 0 ∧ cs ≤ 0) ∨ ((way = 1 ∨ way = -1) ∧ bad = false ∧ ¬ cb ≤ 0 ∧ ¬ cs ≤ 0)) := by
    have e1 : cb ≤ 0 ↔ k.brake.q ≤ 0 := by rw [← Rat.not_lt, ← pb]; omega
    have e2 : cs ≤ 0 ↔ k.speed.q ≤ 0 := by rw [← Rat.not_lt, ← ps]; omega
    by_cases hw : way = 1 ∨ way = -1
    · by_cases h1 : cb ≤ 0
      · exact ⟨true, by simp [e1.mp h1], .inr (.inl ⟨hw, rfl, h1⟩)⟩
      · by_cases h2 : cs ≤ 0
        · exact ⟨true, by simp [e2.mp h2], .inr (.inr (.inl ⟨hw, rfl, h1, h2⟩))⟩
        · refine ⟨false, ⟨(fun h => by cases h), fun h => ?_⟩, .inr (.inr (.inr ⟨hw, rfl, h1, h2⟩))⟩
          rcases h with h | h | h
          · omega
          · exact absurd (e1.mpr h) h1
          · exact absurd (e2.mpr h) h2
    · exact ⟨true, ⟨fun _ => .inl (by omega), fun _ => rfl⟩, .inl ⟨rfl, by omega, by omega⟩⟩
  obtain ⟨bad, hbad, hW⟩ := hW
  have HBAD := Lib.hid hbad
  have HW := Lib.hid hW
  clear hT hls pb ps hbad hW hq
  go_enter Tryd.func40, Tryd.ntmps40
  go_upto_region 1 with (fail)
  generalize World.alloc _ _ = W1 at hI ⊢
  go_cut [32] (fun c wx => c = .bool bad ∧ In w ls wx)
  case first =>
    as_aux_lemma =>
      rcases HW.out with ⟨rfl, h1, h2⟩ | ⟨hw, rfl, h1⟩ | ⟨hw, rfl, h1, h2⟩ | ⟨hw, rfl, h1, h2⟩
      · have g1 : (way != 1) = true := by simpa using h1
        have g2 : (way != -1) = true := by simpa using h2
        refine wp_region_in_plain_all hI ?_
        repeat (first
          | (refine wpSeq_off (by rfl) ?_; try simp only [Act.put, List.setIfInBounds_toArray, List.set_cons_zero, List.set_cons_succ])
          | (refine wpSeq_val (v := ?_) (by rfl) (fun W hS => ?_) ?_
             rotate_left
             · (have fx := hS.facts; simp only [factsOf, cellsOf, Nat.zero_add, Nat.reduceAdd] at fx; clear hS; go_simp; first | done | with_reducible rfl)
             try simp only [Act.put, List.setIfInBounds_toArray, List.set_cons_zero, List.set_cons_succ]))
        refine wpSeq_nil (fun W hS => ?_)
        go_wp2
        go_meet
        exact ⟨rfl, by rw [Hls.out]; exact hS⟩
      · rcases hw with rfl | rfl
        all_goals
          refine wp_region_in_plain_all hI ?_
          repeat (first
            | (refine wpSeq_off (by rfl) ?_; try simp only [Act.put, List.setIfInBounds_toArray, List.set_cons_zero, List.set_cons_succ])
            | (refine wpSeq_val (v := ?_) (by rfl) (fun W hS => ?_) ?_
               rotate_left
               · (have fx := hS.facts; simp only [factsOf, cellsOf, Nat.zero_add, Nat.reduceAdd] at fx; clear hS; go_simp; first | done | with_reducible rfl)
               try simp only [Act.put, List.setIfInBounds_toArray, List.set_cons_zero, List.set_cons_succ]))
          refine wpSeq_call (v := .int .i64 cb) (by rfl) (fun W hS => ?_) (fun W hS => (SB.out W hS.bel)) ?_
          · (clear hS; go_simp; done)
          try simp only [Act.put, List.setIfInBounds_toArray, List.set_cons_zero, List.set_cons_succ]
          repeat (first
            | (refine wpSeq_off (by rfl) ?_; try simp only [Act.put, List.setIfInBounds_toArray, List.set_cons_zero, List.set_cons_succ])
            | (refine wpSeq_val (v := ?_) (by rfl) (fun W hS => ?_) ?_
               rotate_left
               · (have fx := hS.facts; simp only [factsOf, cellsOf, Nat.zero_add, Nat.reduceAdd] at fx; clear hS; go_simp; first | done | with_reducible rfl)
               try simp only [Act.put, List.setIfInBounds_toArray, List.set_cons_zero, List.set_cons_succ]))
          refine wpSeq_nil (fun W hS => ?_)
          go_wp2
          go_meet
          exact ⟨rfl, by rw [Hls.out]; exact hS⟩
      · rcases hw with rfl | rfl
        all_goals
          refine wp_region_in_plain_all hI ?_
          repeat (first
            | (refine wpSeq_off (by rfl) ?_; try simp only [Act.put, List.setIfInBounds_toArray, List.set_cons_zero, List.set_cons_succ])
            | (refine wpSeq_val (v := ?_) (by rfl) (fun W hS => ?_) ?_
               rotate_left
               · (have fx := hS.facts; simp only [factsOf, cellsOf, Nat.zero_add, Nat.reduceAdd] at fx; clear hS; go_simp; first | done | with_reducible rfl)
               try simp only [Act.put, List.setIfInBounds_toArray, List.set_cons_zero, List.set_cons_succ]))
          refine wpSeq_call (v := .int .i64 cb) (by rfl) (fun W hS => ?_) (fun W hS => (SB.out W hS.bel)) ?_
          · (clear hS; go_simp; done)
          try simp only [Act.put, List.setIfInBounds_toArray, List.set_cons_zero, List.set_cons_succ]
          repeat (first
            | (refine wpSeq_off (by rfl) ?_; try simp only [Act.put, List.setIfInBounds_toArray, List.set_cons_zero, List.set_cons_succ])
            | (refine wpSeq_val (v := ?_) (by rfl) (fun W hS => ?_) ?_
               rotate_left
               · (have fx := hS.facts; simp only [factsOf, cellsOf, Nat.zero_add, Nat.reduceAdd] at fx; clear hS; go_simp; first | done | with_reducible rfl)
               try simp only [Act.put, List.setIfInBounds_toArray, List.set_cons_zero, List.set_cons_succ]))
          refine wpSeq_call (v := .int .i64 cs) (by rfl) (fun W hS => ?_) (fun W hS => (SS.out W hS.bel)) ?_
          · (clear hS; go_simp; done)
          try simp only [Act.put, List.setIfInBounds_toArray, List.set_cons_zero, List.set_cons_succ]
          repeat (first
            | (refine wpSeq_off (by rfl) ?_; try simp only [Act.put, List.setIfInBounds_toArray, List.set_cons_zero, List.set_cons_succ])
            | (refine wpSeq_val (v := ?_) (by rfl) (fun W hS => ?_) ?_
               rotate_left
               · (have fx := hS.facts; simp only [factsOf, cellsOf, Nat.zero_add, Nat.reduceAdd] at fx; clear hS; go_simp; first | done | with_reducible rfl)
               try simp only [Act.put, List.setIfInBounds_toArray, List.set_cons_zero, List.set_cons_succ]))
          refine wpSeq_nil (fun W hS => ?_)
          go_wp2
          go_meet
          exact ⟨rfl, by rw [Hls.out]; exact hS⟩
      · rcases hw with rfl | rfl
        all_goals
          refine wp_region_in_plain_all hI ?_
          repeat (first
            | (refine wpSeq_off (by rfl) ?_; try simp only [Act.put, List.setIfInBounds_toArray, List.set_cons_zero, List.set_cons_succ])
            | (refine wpSeq_val (v := ?_) (by rfl) (fun W hS => ?_) ?_
               rotate_left
               · (have fx := hS.facts; simp only [factsOf, cellsOf, Nat.zero_add, Nat.reduceAdd] at fx; clear hS; go_simp; first | done | with_reducible rfl)
               try simp only [Act.put, List.setIfInBounds_toArray, List.set_cons_zero, List.set_cons_succ]))
          refine wpSeq_call (v := .int .i64 cb) (by rfl) (fun W hS => ?_) (fun W hS => (SB.out W hS.bel)) ?_
          · (clear hS; go_simp; done)
          try simp only [Act.put, List.setIfInBounds_toArray, List.set_cons_zero, List.set_cons_succ]
          repeat (first
            | (refine wpSeq_off (by rfl) ?_; try simp only [Act.put, List.setIfInBounds_toArray, List.set_cons_zero, List.set_cons_succ])
            | (refine wpSeq_val (v := ?_) (by rfl) (fun W hS => ?_) ?_
               rotate_left
               · (have fx := hS.facts; simp only [factsOf, cellsOf, Nat.zero_add, Nat.reduceAdd] at fx; clear hS; go_simp; first | done | with_reducible rfl)
               try simp only [Act.put, List.setIfInBounds_toArray, List.set_cons_zero, List.set_cons_succ]))
          refine wpSeq_call (v := .int .i64 cs) (by rfl) (fun W hS => ?_) (fun W hS => (SS.out W hS.bel)) ?_
          · (clear hS; go_simp; done)
          try simp only [Act.put, List.setIfInBounds_toArray, List.set_cons_zero, List.set_cons_succ]
          repeat (first
            | (refine wpSeq_off (by rfl) ?_; try simp only [Act.put, List.setIfInBounds_toArray, List.set_cons_zero, List.set_cons_succ])
            | (refine wpSeq_val (v := ?_) (by rfl) (fun W hS => ?_) ?_
               rotate_left
               · (have fx := hS.facts; simp only [factsOf, cellsOf, Nat.zero_add, Nat.reduceAdd] at fx; clear hS; go_simp; first | done | with_reducible rfl)
               try simp only [Act.put, List.setIfInBounds_toArray, List.set_cons_zero, List.set_cons_succ]))
          refine wpSeq_nil (fun W hS => ?_)
          go_wp2
          go_meet
          exact ⟨rfl, by rw [Hls.out]; exact hS⟩
  case rest =>
    clear hI HW SB SS
    obtain ⟨rfl, hI⟩ := hcut
    rw [Hls.out] at hI
    cases bad with
    | true =>
      have HF := Lib.hid (show FastIs k.brake.q k.low.q k.high.q k.speed.q q.q way nilQ3 1 from .inl ⟨HBAD.out.mp rfl, rfl, rfl⟩)
      obtain ⟨x, hx⟩ : ∃ x, x = nilQ3 := ⟨_, rfl⟩
      have hS0 := hI.take (a := [_])
      have HK2 := Lib.hid (hI.all3 (a := []) (.bool false) (.string { data := #[] }) (.string { data := #[] }))
      have hfx := hS0.facts
      simp only [factsOf, cellsOf, Nat.zero_add, Nat.reduceAdd] at hfx
      have hfz := fun i => hS0.free (k := 0) (i := i) rfl
      clear hS0 hI hx x
      go_wp2_with fail
      clear hfx hfz
      have hK := HK2.out
      clear HK2
      generalize World.setCell _ _ _ = W9 at hK ⊢
      refine bodyPost_ret (results_cell_two Tryd.results40 _ _ (w.heap.size + 1 + 1) 25 _ (0, 0) _ _ rfl rfl (hK.blkAt (k := 0) rfl) Tryd.underlying25 rfl (by kernel_rfl)) rfl ?_
      exact ⟨nilQ3, 1, rfl, HF.out, hK.bel⟩
    | false =>
      have hgood : (way = 1 ∨ way = -1) ∧ 0 < k.brake.q ∧ 0 < k.speed.q := by
        have h1 : ¬ ((way ≠ 1 ∧ way ≠ -1) ∨ k.brake.q ≤ 0 ∨ k.speed.q ≤ 0) := fun h => by have := HBAD.out.mpr h; cases this
        refine ⟨by omega, Rat.not_le.mp fun h => h1 (.inr (.inl h)), Rat.not_le.mp fun h => h1 (.inr (.inr h))⟩
      have HG := Lib.hid hgood
      obtain ⟨z64, q64, _, l64, O64⟩ := ofR w HT.out 64
      obtain ⟨m, qm, _, lm, MU⟩ := mulR w HT.out k.speed z64 ksp l64
      obtain ⟨f, e, hf, he, FL⟩ := floorR w HT.out m lm
      rw [qm, q64] at hf he
      have HF := Lib.hid hf
      have HE := Lib.hid he
      clear qm q64 hf he hgood
      go_upto_region 3 with (fail)
      refine wp_region_in hI (by kernel_rfl) (by kernel_rfl) ?_
      repeat (first
        | (refine wpSeq_off (by rfl) ?_; try simp only [Act.put, List.setIfInBounds_toArray, List.set_cons_zero, List.set_cons_succ])
        | (refine wpSeq_val (v := ?_) (by rfl) (fun W hS => ?_) ?_
           rotate_left
           · (have fx := hS.facts; simp only [factsOf, cellsOf, Nat.zero_add, Nat.reduceAdd] at fx; clear hS; go_simp; first | done | with_reducible rfl)
           try simp only [Act.put, List.setIfInBounds_toArray, List.set_cons_zero, List.set_cons_succ]))
      refine wpSeq_call (v := .agg #[.bool z64.neg, .string z64.num, .string z64.den]) (by rfl) (fun W hS => ?_) (fun W hS => (O64.out W hS.bel)) ?_
      · (clear hS; go_simp; done)
      try simp only [Act.put, List.setIfInBounds_toArray, List.set_cons_zero, List.set_cons_succ]
      repeat (first
        | (refine wpSeq_off (by rfl) ?_; try simp only [Act.put, List.setIfInBounds_toArray, List.set_cons_zero, List.set_cons_succ])
        | (refine wpSeq_val (v := ?_) (by rfl) (fun W hS => ?_) ?_
           rotate_left
           · (have fx := hS.facts; simp only [factsOf, cellsOf, Nat.zero_add, Nat.reduceAdd] at fx; clear hS; go_simp; first | done | with_reducible rfl)
           try simp only [Act.put, List.setIfInBounds_toArray, List.set_cons_zero, List.set_cons_succ]))
      refine wpSeq_call (v := .agg #[.bool m.neg, .string m.num, .string m.den]) (by rfl) (fun W hS => ?_) (fun W hS => (MU.out W hS.bel)) ?_
      · (clear hS; go_simp; done)
      try simp only [Act.put, List.setIfInBounds_toArray, List.set_cons_zero, List.set_cons_succ]
      repeat (first
        | (refine wpSeq_off (by rfl) ?_; try simp only [Act.put, List.setIfInBounds_toArray, List.set_cons_zero, List.set_cons_succ])
        | (refine wpSeq_val (v := ?_) (by rfl) (fun W hS => ?_) ?_
           rotate_left
           · (have fx := hS.facts; simp only [factsOf, cellsOf, Nat.zero_add, Nat.reduceAdd] at fx; clear hS; go_simp; first | done | with_reducible rfl)
           try simp only [Act.put, List.setIfInBounds_toArray, List.set_cons_zero, List.set_cons_succ]))
      refine wpSeq_call (v := .tuple #[.int .i64 f, .int .i64 e]) (by rfl) (fun W hS => ?_) (fun W hS => (FL.out W hS.bel)) ?_
      · (clear hS; go_simp; done)
      try simp only [Act.put, List.setIfInBounds_toArray, List.set_cons_zero, List.set_cons_succ]
      repeat (first
        | (refine wpSeq_off (by rfl) ?_; try simp only [Act.put, List.setIfInBounds_toArray, List.set_cons_zero, List.set_cons_succ])
        | (refine wpSeq_val (v := ?_) (by rfl) (fun W hS => ?_) ?_
           rotate_left
           · (have fx := hS.facts; simp only [factsOf, cellsOf, Nat.zero_add, Nat.reduceAdd] at fx; clear hS; go_simp; first | done | with_reducible rfl)
           try simp only [Act.put, List.setIfInBounds_toArray, List.set_cons_zero, List.set_cons_succ]))
      refine wpSeq_nil (fun W hS => ?_)
      clear hI O64 MU FL
      replace hI := hS
      clear hS
      by_cases he0 : e = 0
      · subst he0
        have hE0 : floorE (k.speed.q * ((64 : Int) : Rat)) = 0 := by have := HE.out; omega
        by_cases hf6 : f > 6400
        · have HFI := Lib.hid (show FastIs k.brake.q k.low.q k.high.q k.speed.q q.q way nilQ3 2 from .inr (.inl ⟨HG.out.1, HG.out.2.1, HG.out.2.2, .inr (by rw [← HF.out]; exact hf6), rfl, rfl⟩))
          have hS0 := hI.take (a := [_])
          have HK2 := Lib.hid (hI.all3 (a := []) (.bool false) (.string { data := #[] }) (.string { data := #[] }))
          have hfx := hS0.facts
          simp only [factsOf, cellsOf, Nat.zero_add, Nat.reduceAdd] at hfx
          have hfz := fun i => hS0.free (k := 0) (i := i) rfl
          clear hS0 hI
          go_wp2_with fail
          clear hfx hfz
          have hK := HK2.out
          clear HK2
          generalize World.setCell _ _ _ = W9 at hK ⊢
          refine bodyPost_ret (results_cell_two Tryd.results40 _ _ (w.heap.size + 1 + 1) 25 _ (0, 0) _ _ rfl rfl (hK.blkAt (k := 0) rfl) Tryd.underlying25 rfl (by kernel_rfl)) rfl ?_
          exact ⟨nilQ3, 2, rfl, HFI.out, hK.bel⟩
        · have hf0 : 0 ≤ f := by
            rw [HF.out]
            unfold floorN
            split
            · have h1 := Rat.lt_floor_add_one (k.speed.q * ((64 : Int) : Rat))
              have h2 : ((0 : Int) : Rat) < ((k.speed.q * ((64 : Int) : Rat)).floor + 1 : Int) := by
                refine Std.lt_of_le_of_lt ?_ h1
                have h3 := HG.out.2.2
                have h4 : ((64 : Int) : Rat) = 64 := rfl
                have h5 : ((0 : Int) : Rat) = 0 := rfl
                rw [h4, h5]
                grind
              have := Rat.intCast_lt_intCast.mp h2
              omega
            · exact Int.le_refl _
          obtain ⟨T, hTT⟩ : ∃ T : Int → Bool, ∀ m : Int, (T m = true ↔ FitP k.brake.q k.low.q k.high.q q.q (((m * way : Int) : Rat) / ((64 : Int) : Rat))) := ⟨fun m => @decide (FitP k.brake.q k.low.q k.high.q q.q (((m * way : Int) : Rat) / ((64 : Int) : Rat))) (Classical.propDecidable _), fun m => @decide_eq_true_iff _ (Classical.propDecidable _)⟩
          have HTT := Lib.hid hTT
          have hst := Lib.hid (show FaRel w ls T f (.int .i64 0) (.int .i64 f) W from ⟨0, f, rfl, rfl, Int.le_refl _, hf0, Int.le_refl _, .inl rfl, .inl rfl, by rw [Hls.out]; exact hI⟩)
          clear hI hTT
          go_wp2_with fail
          go_loopw [10, 11] (fun low high wr => FaRel w ls T f low high wr) (fun low high _ => (intOf high - intOf low).toNat)
          case atStart => exact hst.out
          case round =>
            clear hst
            obtain ⟨a, b, rfl, rfl, ha, hab, hbn, hTa, hTb, hI⟩ := hrel
            rw [Hls.out] at hI
            rcases Int.lt_or_le a b with hlt | hge
            · obtain ⟨m, hm⟩ : ∃ m, m = (a + b + 1) / 2 := ⟨_, rfl⟩
              have hm1 : a < m ∧ m ≤ b := by omega
              have hw1 : IntKind.i64.wrap (a + b) = a + b := by rw [IntKind.wrap_i64]; omega
              have hw2 : IntKind.i64.wrap (a + b + 1) = a + b + 1 := by rw [IntKind.wrap_i64]; omega
              have hw3 : (a + b + 1).tdiv 2 = m := by rw [hm]; exact Int.tdiv_eq_ediv_of_nonneg (by omega)
              have hw4 : IntKind.i64.wrap m = m := by rw [IntKind.wrap_i64]; omega
              have hmw : -6400 ≤ m * way ∧ m * way ≤ 6400 := by
                rcases HG.out.1 with rfl | rfl
                · omega
                · omega
              have hw5 : IntKind.i64.wrap (m * way) = m * way := by rw [IntKind.wrap_i64]; omega
              have hw6 : IntKind.i64.wrap (m - 1) = m - 1 := by rw [IntKind.wrap_i64]; omega
              obtain ⟨r, hr, WI⟩ := withinStop w HT.out k q (m * way) HK.out HQ.out (by omega) hN
              obtain rfl : r = T m := Bool.eq_iff_iff.mpr (hr.trans (HTT.out m).symm)
              have Hm := Lib.hid hm
              have HTa := Lib.hid hTa
              have HTb := Lib.hid hTb
              clear hm hr hTa hTb
              have fx := hI.facts
              simp only [factsOf, cellsOf, Nat.zero_add, Nat.reduceAdd] at fx
              cases hT1 : T m with
              | true =>
                rw [hT1] at WI
                have HN := Lib.hid (show ∀ W, In w ls W → FaRel w ls T f (.int .i64 m) (.int .i64 b) W from fun W hW => ⟨m, b, rfl, rfl, by omega, hm1.2, hbn, .inr hT1, HTb.out, hW⟩)
                clear hT1
                go_wp2_with fail
                refine (WI.out _ hI.bel).mono ?_
                rintro e wn ⟨rfl, hb⟩
                replace hI := hI.call hb
                clear hb
                have hrel := HN.out wn (by rw [Hls.out]; exact hI)
                clear fx hI HN
                go_wp2_with fail
                go_roundw
                case rel => exact hrel
                case measure => simp [intOf]; omega
              | false =>
                rw [hT1] at WI
                have HN := Lib.hid (show ∀ W, In w ls W → FaRel w ls T f (.int .i64 a) (.int .i64 (m - 1)) W from fun W hW => ⟨a, m - 1, rfl, rfl, ha, by omega, by omega, HTa.out, .inr (by rw [show m - 1 + 1 = m by omega]; exact hT1), hW⟩)
                clear hT1
                go_wp2_with fail
                refine (WI.out _ hI.bel).mono ?_
                rintro e wn ⟨rfl, hb⟩
                replace hI := hI.call hb
                clear hb
                have hrel := HN.out wn (by rw [Hls.out]; exact hI)
                clear fx hI HN
                go_wp2_with fail
                go_roundw
                case rel => exact hrel
                case measure => simp [intOf]; omega
            · obtain rfl : a = b := by omega
              have hlt : ¬ a < a := by omega
              obtain ⟨x, qx, cx, lx, MK⟩ := makeR w HT.out a 64 cast64
              have HFI := Lib.hid (show FastIs k.brake.q k.low.q k.high.q k.speed.q q.q way x 0 from .inr (.inr ⟨HG.out.1, HG.out.2.1, HG.out.2.2, hE0, by rw [← HF.out]; omega, rfl, cx, lx, a, ha, by rw [← HF.out]; exact hbn, qx, hTa.imp id (HTT.out a).mp, hTb.imp (fun h => by rw [← HF.out]; exact h) (fun h h2 => by rw [(HTT.out (a + 1)).mpr h2] at h; cases h)⟩))
              clear hTa hTb qx cx
              go_wp2_with fail
              refine (MK.out _ hI.bel).mono ?_
              rintro e wn ⟨rfl, hb⟩
              replace hI := hI.call hb
              clear hb
              replace hI := hI.alloc 25 #[.bool x.neg, .string x.num, .string x.den]
              obtain ⟨g, hg⟩ : ∃ g, g = wn.heap.size := ⟨_, rfl⟩
              go_upto_region 13 with (fail)
              rw [← hg] at hI ⊢
              generalize World.alloc _ _ = W2 at hI ⊢
              clear hg
              have fx := hI.facts
              simp only [factsOf, cellsOf, Nat.zero_add, Nat.reduceAdd] at fx
              have hJ := hI.tail
              clear hI
              have hS0 := hJ.take (a := [_])
              have HK2 := Lib.hid (hJ.all3 (a := []) (.bool x.neg) (.string x.num) (.string x.den))
              have hfx := hS0.facts
              simp only [factsOf, cellsOf, Nat.zero_add, Nat.reduceAdd] at hfx
              have hfz := fun i => hS0.free (k := 0) (i := i) rfl
              clear hS0 hJ
              go_wp2_with fail
              clear hfx hfz fx
              have hK := HK2.out
              clear HK2
              generalize World.setCell _ _ _ = W9 at hK ⊢
              refine bodyPost_ret (results_cell_two Tryd.results40 _ _ (w.heap.size + 1 + 1) 25 _ (0, 0) _ _ rfl rfl (hK.blkAt (k := 0) rfl) Tryd.underlying25 rfl (by kernel_rfl)) rfl ?_
              exact ⟨x, 0, rfl, HFI.out, hK.bel⟩
      · have he1 : (e != 0) = true := by simpa using he0
        have he2 : (e == 0) = false := by simpa using he0
        have HFI := Lib.hid (show FastIs k.brake.q k.low.q k.high.q k.speed.q q.q way nilQ3 2 from .inr (.inl ⟨HG.out.1, HG.out.2.1, HG.out.2.2, .inl (by have := HE.out; omega), rfl, rfl⟩))
        have hS0 := hI.take (a := [_])
        have HK2 := Lib.hid (hI.all3 (a := []) (.bool false) (.string { data := #[] }) (.string { data := #[] }))
        have hfx := hS0.facts
        simp only [factsOf, cellsOf, Nat.zero_add, Nat.reduceAdd] at hfx
        have hfz := fun i => hS0.free (k := 0) (i := i) rfl
        clear hS0 hI
        go_wp2_with fail
        clear hfx hfz
        have hK := HK2.out
        clear HK2
        generalize World.setCell _ _ _ = W9 at hK ⊢
        refine bodyPost_ret (results_cell_two Tryd.results40 _ _ (w.heap.size + 1 + 1) 25 _ (0, 0) _ _ rfl rfl (hK.blkAt (k := 0) rfl) Tryd.underlying25 rfl (by kernel_rfl)) rfl ?_
        exact ⟨nilQ3, 2, rfl, HFI.out, hK.bel⟩
end Go.Proofs.YtnnbnecpcppkdaaDoor
