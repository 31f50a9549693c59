/- stop.within, stop.Fast. Conditions: those typed. -/
import Derived.Test.YtnnbnecpcppkdaaDoorPathPlain
import Derived.Test.YtnnbnecpcppkdaaDoorKeep
import Derived.Test.YtnnbnecpcppkdaaDoorPts
namespace Go.Proofs.YtnnbnecpcppkdaaDoor
open Go.RowKit Go.Gy
set_option linter.unusedVariables false
/-- who moves by v and then brakes stays within the limits -/
def FitP (b lo hi q v : Rat) : Prop := ∃ n : Int, TicksIs b v n 0 ∧ lo ≤ q + v + wayQ b v n ∧ q + v + wayQ b v n ≤ hi
theorem ticks_uniq {b v : Rat} {n e n' e' : Int} (h : TicksIs b v n e) (h' : TicksIs b v n' e') : n = n' ∧ e = e' := by
  rcases h with ⟨h1, h2, h3⟩ | ⟨h1, h2, h3, h4⟩ | ⟨h1, h2, h3, h4, h5, h6, h7⟩
  · rcases h' with ⟨g1, g2, g3⟩ | ⟨g1, _⟩ | ⟨g1, _⟩
    · exact ⟨by rw [h2, g2], by rw [h3, g3]⟩
    · grind
    · grind
  · rcases h' with ⟨g1, _⟩ | ⟨g1, g2, g3, g4⟩ | ⟨g1, g2, _⟩
    · grind
    · exact ⟨by rw [h3, g3], by rw [h4, g4]⟩
    · grind
  · rcases h' with ⟨g1, _⟩ | ⟨g1, g2, _⟩ | ⟨g1, g2, g3, g4, g5, g6, g7⟩
    · grind
    · grind
    · refine ⟨?_, by rw [h3, g3]⟩
      have key : ∀ {x y : Int}, absQ v ≤ y * b → ((x : Rat) - 1) * b < absQ v → x ≤ y := fun {x y} hy hx => Int.not_lt.mp fun hlt => by
        have h8 := mul_mono h1 (show y ≤ x - 1 by omega)
        rw [Rat.intCast_sub, show ((1 : Int) : Rat) = 1 from rfl] at h8
        grind
      have k1 := key g6 h7
      have k2 := key h6 g7
      omega
theorem fit_iff {b lo hi q v : Rat} {n e : Int} (h : TicksIs b v n e) : FitP b lo hi q v ↔ e = 0 ∧ lo ≤ q + v + wayQ b v n ∧ q + v + wayQ b v n ≤ hi := by
  constructor
  · rintro ⟨n', h1, h2⟩
    obtain ⟨rfl, rfl⟩ := ticks_uniq h h1
    exact ⟨rfl, h2⟩
  · rintro ⟨rfl, h2⟩
    exact ⟨n, h, h2⟩
theorem fit_zero {b lo hi q : Rat} (hb : 0 < b) (h : lo ≤ q ∧ q ≤ hi) : FitP b lo hi q 0 := by
  have h0 : absQ 0 = 0 := by decide +kernel
  have e0 : ((0 : Int) : Rat) = 0 := rfl
  refine ⟨0, .inr (.inr ⟨hb, by rw [h0]; grind, rfl, Int.le_refl _, by decide, by rw [h0, e0]; grind, by rw [h0, e0]; grind⟩), ?_⟩
  have hw : wayQ b 0 0 = 0 := by unfold wayQ; rw [if_pos (by decide)]
  rw [hw]
  constructor <;> grind
theorem fit_path {b lo hi q v : Rat} {n e : Int} {m : Nat} (h : TicksIs b v n e) (hb : 0 < b) (hm : PathEnd b v m) : FitP b lo hi q v ↔ pathV b v m = 0 ∧ lo ≤ pathQ b (q + v) v m ∧ pathQ b (q + v) v m ≤ hi := by
  rw [fit_iff h]
  rcases h with ⟨h1, _⟩ | ⟨h1, h2, h3, h4⟩ | h
  · grind
  · subst h4
    constructor
    · rintro ⟨h, _⟩; exact absurd h (by decide)
    · rintro ⟨h, _⟩; exact absurd h (path_far h1 h2 hm)
  · obtain rfl : e = 0 := h.2.2.1
    obtain ⟨h5, h6⟩ := path_ticks (.inr (.inr h)) hm
    rw [wayQ_path (q := q + v) (.inr (.inr h)) h5]
    exact ⟨fun h => ⟨h6, h.2⟩, fun h => ⟨rfl, h.2⟩⟩
theorem cast64 : ((64 : Int) : Rat) ≠ 0 := by decide +kernel
set_option maxRecDepth 100000 in
set_option maxHeartbeats 8000000 in
theorem withinStop (w : World) (hT : TabW w) (k : Lk) (q : Q3) (m : Int) {N : Nat} (hk : k.le N) (hq : q.le N) (hm : -1000000 ≤ m ∧ m ≤ 1000000) (hN : 1 ≤ N ∧ N ≤ 67108864) :
    ∃ r : Bool, (r = true ↔ FitP k.brake.q k.low.q k.high.q q.q ((m : Rat) / ((64 : Int) : Rat))) ∧ Hid (∀ W, Below w.heap.size w W → Calls Tryd.prog 78 #[.agg #[.bool k.len.neg, .string k.len.num, .string k.len.den, .bool k.low.neg, .string k.low.num, .string k.low.den, .bool k.high.neg, .string k.high.num, .string k.high.den, .bool k.speed.neg, .string k.speed.num, .string k.speed.den, .bool k.brake.neg, .string k.brake.num, .string k.brake.den, k.shape], .agg #[.bool q.neg, .string q.num, .string q.den], .int .i64 m] W fun e w' => e = .returned (.bool r) ∧ Below W.heap.size W w') := by
  obtain ⟨_, klo, khi, _, kb⟩ := hk
  obtain ⟨v, qv, _, lv, MV⟩ := makeR w hT m 64 cast64
  obtain ⟨n, e, z, hTI, hze, hz0, hzl, _, WY⟩ := wayR w hT k v lv kb
  obtain ⟨s, qs, _, ls, A1⟩ := addR w hT q v hq lv
  obtain ⟨t, qt, _, lt, A2⟩ := addR w hT s z ls hzl
  obtain ⟨c1, _, _, p1, C1⟩ := cmpR w hT t k.low lt klo
  obtain ⟨c2, _, p2, _, C2⟩ := cmpR w hT t k.high lt khi
  rw [qv] at hTI
  have hW : ∃ r : Bool, (r = true ↔ FitP k.brake.q k.low.q k.high.q q.q ((m : Rat) / ((64 : Int) : Rat))) ∧ ((¬ e = 0 ∧ r = false) ∨ (e = 0 ∧ ¬ c1 ≥ 0 ∧ r = false) ∨ (e = 0 ∧ c1 ≥ 0 ∧ c2 ≤ 0 ∧ r = true) ∨ (e = 0 ∧ c1 ≥ 0 ∧ ¬ c2 ≤ 0 ∧ r = false)) := by
    by_cases he : e = 0
    · subst he
      obtain ⟨hzq, _⟩ := hz0 rfl
      have ht : t.q = q.q + (m : Rat) / ((64 : Int) : Rat) + wayQ k.brake.q ((m : Rat) / ((64 : Int) : Rat)) n := by rw [qt, qs, hzq, qv]
      by_cases h1 : c1 ≥ 0
      · have g1 : k.low.q ≤ t.q := Rat.not_lt.mp fun h => by have := p1.mpr h; omega
        by_cases h2 : c2 ≤ 0
        · have g2 : t.q ≤ k.high.q := Rat.not_lt.mp fun h => by have := p2.mpr h; omega
          exact ⟨true, by rw [fit_iff hTI, ← ht]; exact ⟨fun _ => ⟨rfl, g1, g2⟩, fun _ => rfl⟩, .inr (.inr (.inl ⟨rfl, h1, h2, rfl⟩))⟩
        · exact ⟨false, by rw [fit_iff hTI, ← ht]; exact ⟨(fun h => by cases h), fun h => absurd (p2.mp (by omega)) (Rat.not_lt.mpr h.2.2)⟩, .inr (.inr (.inr ⟨rfl, h1, h2, rfl⟩))⟩
      · exact ⟨false, by rw [fit_iff hTI, ← ht]; exact ⟨(fun h => by cases h), fun h => absurd (p1.mp (by omega)) (Rat.not_lt.mpr h.2.1)⟩, .inr (.inl ⟨rfl, h1, rfl⟩)⟩
    · exact ⟨false, by rw [fit_iff hTI]; exact ⟨(fun h => by cases h), fun h => absurd h.1 he⟩, .inl ⟨he, rfl⟩⟩
  obtain ⟨r, hr, hW⟩ := hW
  refine ⟨r, hr, Lib.hid fun W0 hW0 => ?_⟩
  replace MV := up MV hW0
  replace WY := up WY hW0
  replace A1 := up A1 hW0
  replace A2 := up A2 hW0
  replace C1 := up C1 hW0
  replace C2 := up C2 hW0
  have hI := ((In.start W0).alloc 28 #[.bool k.len.neg, .string k.len.num, .string k.len.den, .bool k.low.neg, .string k.low.num, .string k.low.den, .bool k.high.neg, .string k.high.num, .string k.high.den, .bool k.speed.neg, .string k.speed.num, .string k.speed.den, .bool k.brake.neg, .string k.brake.num, .string k.brake.den, k.shape]).alloc 25 #[.bool q.neg, .string q.num, .string q.den]
  rw [World.size_alloc] at hI
  have HW := Lib.hid hW
  clear qv hTI hze hz0 qs qt p1 p2 hr hW hT hW0
  go_enter Tryd.func78, Tryd.ntmps78
  go_upto_region 1 with (fail)
  generalize World.alloc _ _ = W1 at hI ⊢
  go_wp2_with fail
  refine (MV.out _ hI.bel).mono ?_
  rintro e wn ⟨rfl, hb⟩
  replace hI := hI.call hb
  clear hb
  replace hI := hI.alloc 25 #[.bool v.neg, .string v.num, .string v.den]
  obtain ⟨g, hg⟩ : ∃ g, g = wn.heap.size := ⟨_, rfl⟩
  go_upto_region 2 with (fail)
  rw [← hg] at hI ⊢
  generalize World.alloc _ _ = W2 at hI ⊢
  clear hg
  have fx := hI.facts
  simp only [factsOf, cellsOf, Nat.zero_add, Nat.reduceAdd] at fx
  go_wp2_with fail
  refine (WY.out _ hI.bel).mono ?_
  rintro e wn ⟨rfl, hb⟩
  replace hI := hI.call hb
  clear hb
  clear fx
  replace hI := hI.alloc 25 #[.bool z.neg, .string z.num, .string z.den]
  obtain ⟨g2, hg2⟩ : ∃ g, g = wn.heap.size := ⟨_, rfl⟩
  go_upto_region 3 with (fail)
  rw [← hg2] at hI ⊢
  generalize World.alloc _ _ = W3 at hI ⊢
  clear hg2
  have hz3 : e = 0 ∨ ¬ e = 0 := Decidable.em _
  rcases hz3 with rfl | he
  · have hW : (¬ c1 ≥ 0 ∧ r = false) ∨ (c1 ≥ 0 ∧ c2 ≤ 0 ∧ r = true) ∨ (c1 ≥ 0 ∧ ¬ c2 ≤ 0 ∧ r = false) := by
      rcases HW.out with ⟨h, _⟩ | ⟨_, h⟩ | ⟨_, h⟩ | ⟨_, h⟩
      · exact absurd rfl h
      · exact .inl ⟨by omega, h.2⟩
      · exact .inr (.inl h)
      · exact .inr (.inr ⟨h.1, by omega, h.2.2⟩)
    clear HW
    go_upto_region 5 with (fail)
    refine wp_region_in_float 5 _ 25 #[.bool false, .string { data := #[] }, .string { data := #[] }] hI (by kernel_rfl) (by kernel_rfl) rfl ?_
    simp only [List.take_succ_cons, List.take_zero, List.drop_succ_cons, List.drop_zero]
    repeat (first
      | (refine wpSeq_off (by rfl) ?_; try simp only [Act.put, List.setIfInBounds_toArray, List.set_cons_zero, List.set_cons_succ])
      | (refine wpSeq_val (v := ?_) (by rfl) (fun W hS => ?_) ?_
         rotate_left
         · (have fx := hS.facts; simp only [factsOf, cellsOf, Nat.zero_add, Nat.reduceAdd] at fx; clear hS; go_simp; first | done | with_reducible rfl)
         try simp only [Act.put, List.setIfInBounds_toArray, List.set_cons_zero, List.set_cons_succ]))
    refine wpSeq_call (v := .agg #[.bool s.neg, .string s.num, .string s.den]) (by rfl) (fun W hS => ?_) (fun W hS => (A1.out W hS.bel)) ?_
    · (clear hS; go_simp; done)
    try simp only [Act.put, List.setIfInBounds_toArray, List.set_cons_zero, List.set_cons_succ]
    repeat (first
      | (refine wpSeq_off (by rfl) ?_; try simp only [Act.put, List.setIfInBounds_toArray, List.set_cons_zero, List.set_cons_succ])
      | (refine wpSeq_val (v := ?_) (by rfl) (fun W hS => ?_) ?_
         rotate_left
         · (have fx := hS.facts; simp only [factsOf, cellsOf, Nat.zero_add, Nat.reduceAdd] at fx; clear hS; go_simp; first | done | with_reducible rfl)
         try simp only [Act.put, List.setIfInBounds_toArray, List.set_cons_zero, List.set_cons_succ]))
    refine wpSeq_call (v := .agg #[.bool t.neg, .string t.num, .string t.den]) (by rfl) (fun W hS => ?_) (fun W hS => (A2.out W hS.bel)) ?_
    · (clear hS; go_simp; done)
    try simp only [Act.put, List.setIfInBounds_toArray, List.set_cons_zero, List.set_cons_succ]
    repeat (first
      | (refine wpSeq_off (by rfl) ?_; try simp only [Act.put, List.setIfInBounds_toArray, List.set_cons_zero, List.set_cons_succ])
      | (refine wpSeq_val (v := ?_) (by rfl) (fun W hS => ?_) ?_
         rotate_left
         · (have fx := hS.facts; simp only [factsOf, cellsOf, Nat.zero_add, Nat.reduceAdd] at fx; clear hS; go_simp; first | done | with_reducible rfl)
         try simp only [Act.put, List.setIfInBounds_toArray, List.set_cons_zero, List.set_cons_succ]))
    refine wpSeq_nil ⟨rfl, fun W hS => ?_, fun g W hI => ?_⟩
    · go_simp
    simp only [List.setIfInBounds_toArray, List.set_cons_zero, List.set_cons_succ]
    have hS1 := hI.take (a := [_])
    have fx := hS1.facts
    simp only [factsOf, cellsOf, Nat.zero_add, Nat.reduceAdd] at fx
    have hfz := fun i => hS1.free (k := 0) (i := i) rfl
    have HX := Lib.hid (hI.all3 (a := []) (.bool t.neg) (.string t.num) (.string t.den))
    clear hS1 hI
    go_upto_region 6 with (fail)
    have hI : In W0 (_ :: _) _ := HX.out
    clear HX fx hfz
    generalize World.setCell _ _ _ = W4 at hI ⊢
    rcases hW with ⟨h1, rfl⟩ | ⟨h1, h2, rfl⟩ | ⟨h1, h2, rfl⟩
    · refine wp_region_in_plain_all hI ?_
      repeat (first
        | (refine wpSeq_off (by rfl) ?_; try simp only [Act.put, List.setIfInBounds_toArray, List.set_cons_zero, List.set_cons_succ])
        | (refine wpSeq_val (v := ?_) (by rfl) (fun W hS => ?_) ?_
           rotate_left
           · (have fx := hS.facts; simp only [factsOf, cellsOf, Nat.zero_add, Nat.reduceAdd] at fx; clear hS; go_simp; first | done | with_reducible rfl)
           try simp only [Act.put, List.setIfInBounds_toArray, List.set_cons_zero, List.set_cons_succ]))
      refine wpSeq_call (v := .int .i64 c1) (by rfl) (fun W hS => ?_) (fun W hS => (C1.out W hS.bel)) ?_
      · (clear hS; go_simp; done)
      try simp only [Act.put, List.setIfInBounds_toArray, List.set_cons_zero, List.set_cons_succ]
      repeat (first
        | (refine wpSeq_off (by rfl) ?_; try simp only [Act.put, List.setIfInBounds_toArray, List.set_cons_zero, List.set_cons_succ])
        | (refine wpSeq_val (v := ?_) (by rfl) (fun W hS => ?_) ?_
           rotate_left
           · (have fx := hS.facts; simp only [factsOf, cellsOf, Nat.zero_add, Nat.reduceAdd] at fx; clear hS; go_simp; first | done | with_reducible rfl)
           try simp only [Act.put, List.setIfInBounds_toArray, List.set_cons_zero, List.set_cons_succ]))
      refine wpSeq_nil (fun W hS => ?_)
      go_wp2
      go_ret
      exact ⟨rfl, hS.bel⟩
    · refine wp_region_in_plain_all hI ?_
      repeat (first
        | (refine wpSeq_off (by rfl) ?_; try simp only [Act.put, List.setIfInBounds_toArray, List.set_cons_zero, List.set_cons_succ])
        | (refine wpSeq_val (v := ?_) (by rfl) (fun W hS => ?_) ?_
           rotate_left
           · (have fx := hS.facts; simp only [factsOf, cellsOf, Nat.zero_add, Nat.reduceAdd] at fx; clear hS; go_simp; first | done | with_reducible rfl)
           try simp only [Act.put, List.setIfInBounds_toArray, List.set_cons_zero, List.set_cons_succ]))
      refine wpSeq_call (v := .int .i64 c1) (by rfl) (fun W hS => ?_) (fun W hS => (C1.out W hS.bel)) ?_
      · (clear hS; go_simp; done)
      try simp only [Act.put, List.setIfInBounds_toArray, List.set_cons_zero, List.set_cons_succ]
      repeat (first
        | (refine wpSeq_off (by rfl) ?_; try simp only [Act.put, List.setIfInBounds_toArray, List.set_cons_zero, List.set_cons_succ])
        | (refine wpSeq_val (v := ?_) (by rfl) (fun W hS => ?_) ?_
           rotate_left
           · (have fx := hS.facts; simp only [factsOf, cellsOf, Nat.zero_add, Nat.reduceAdd] at fx; clear hS; go_simp; first | done | with_reducible rfl)
           try simp only [Act.put, List.setIfInBounds_toArray, List.set_cons_zero, List.set_cons_succ]))
      refine wpSeq_call (v := .int .i64 c2) (by rfl) (fun W hS => ?_) (fun W hS => (C2.out W hS.bel)) ?_
      · (clear hS; go_simp; done)
      try simp only [Act.put, List.setIfInBounds_toArray, List.set_cons_zero, List.set_cons_succ]
      repeat (first
        | (refine wpSeq_off (by rfl) ?_; try simp only [Act.put, List.setIfInBounds_toArray, List.set_cons_zero, List.set_cons_succ])
        | (refine wpSeq_val (v := ?_) (by rfl) (fun W hS => ?_) ?_
           rotate_left
           · (have fx := hS.facts; simp only [factsOf, cellsOf, Nat.zero_add, Nat.reduceAdd] at fx; clear hS; go_simp; first | done | with_reducible rfl)
           try simp only [Act.put, List.setIfInBounds_toArray, List.set_cons_zero, List.set_cons_succ]))
      refine wpSeq_nil (fun W hS => ?_)
      go_wp2
      go_ret
      exact ⟨rfl, hS.bel⟩
    · refine wp_region_in_plain_all hI ?_
      repeat (first
        | (refine wpSeq_off (by rfl) ?_; try simp only [Act.put, List.setIfInBounds_toArray, List.set_cons_zero, List.set_cons_succ])
        | (refine wpSeq_val (v := ?_) (by rfl) (fun W hS => ?_) ?_
           rotate_left
           · (have fx := hS.facts; simp only [factsOf, cellsOf, Nat.zero_add, Nat.reduceAdd] at fx; clear hS; go_simp; first | done | with_reducible rfl)
           try simp only [Act.put, List.setIfInBounds_toArray, List.set_cons_zero, List.set_cons_succ]))
      refine wpSeq_call (v := .int .i64 c1) (by rfl) (fun W hS => ?_) (fun W hS => (C1.out W hS.bel)) ?_
      · (clear hS; go_simp; done)
      try simp only [Act.put, List.setIfInBounds_toArray, List.set_cons_zero, List.set_cons_succ]
      repeat (first
        | (refine wpSeq_off (by rfl) ?_; try simp only [Act.put, List.setIfInBounds_toArray, List.set_cons_zero, List.set_cons_succ])
        | (refine wpSeq_val (v := ?_) (by rfl) (fun W hS => ?_) ?_
           rotate_left
           · (have fx := hS.facts; simp only [factsOf, cellsOf, Nat.zero_add, Nat.reduceAdd] at fx; clear hS; go_simp; first | done | with_reducible rfl)
           try simp only [Act.put, List.setIfInBounds_toArray, List.set_cons_zero, List.set_cons_succ]))
      refine wpSeq_call (v := .int .i64 c2) (by rfl) (fun W hS => ?_) (fun W hS => (C2.out W hS.bel)) ?_
      · (clear hS; go_simp; done)
      try simp only [Act.put, List.setIfInBounds_toArray, List.set_cons_zero, List.set_cons_succ]
      repeat (first
        | (refine wpSeq_off (by rfl) ?_; try simp only [Act.put, List.setIfInBounds_toArray, List.set_cons_zero, List.set_cons_succ])
        | (refine wpSeq_val (v := ?_) (by rfl) (fun W hS => ?_) ?_
           rotate_left
           · (have fx := hS.facts; simp only [factsOf, cellsOf, Nat.zero_add, Nat.reduceAdd] at fx; clear hS; go_simp; first | done | with_reducible rfl)
           try simp only [Act.put, List.setIfInBounds_toArray, List.set_cons_zero, List.set_cons_succ]))
      refine wpSeq_nil (fun W hS => ?_)
      go_wp2
      go_ret
      exact ⟨rfl, hS.bel⟩
  · obtain rfl : r = false := by
      rcases HW.out with ⟨_, h⟩ | ⟨h, _⟩ | ⟨h, _⟩ | ⟨h, _⟩
      · exact h
      · exact absurd h he
      · exact absurd h he
      · exact absurd h he
    have he1 : (e == 0) = false := by simpa using he
    go_wp2
    go_ret
    exact ⟨rfl, hI.bel⟩
end Go.Proofs.YtnnbnecpcppkdaaDoor
