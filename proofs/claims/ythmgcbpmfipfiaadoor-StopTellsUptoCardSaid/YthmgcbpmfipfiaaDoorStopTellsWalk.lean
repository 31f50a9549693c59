/- StopTells: the walk. Conditions: those typed. -/
import Derived.Test.YthmgcbpmfipfiaaDoorBraked
import Derived.Test.YthmgcbpmfipfiaaDoorPath
import Derived.Test.YthmgcbpmfipfiaaDoorMid
import Derived.Test.YthmgcbpmfipfiaaDoorEqQ
import Derived.Test.YthmgcbpmfipfiaaDoorPts
namespace Go.Proofs.YthmgcbpmfipfiaaDoor.stopTells
open Go.RowKit Go.Gy
set_option linter.unusedVariables false
set_option maxRecDepth 100000 in
theorem eql_quot (w : World) (x : Q3) : (binOp .eql 27 (.agg #[.bool x.neg, .string x.num, .string x.den]) (.agg #[.bool x.neg, .string x.num, .string x.den])).run Tryd.prog w = .ok (.bool true) w := by
  have hS : Tryd.prog.underlying 27 = some (.struct (Tryd.prog.fieldsOf 27)) := by kernel_rfl
  have hp : Tryd.prog.stoodInHeld 27 = false := by kernel_rfl
  have u4 := Tryd.underlying4
  have us := Tryd.underlying9
  rw [run_eql_struct, show (10000 : Nat) = 9999 + 1 from rfl, run_equalIn_agg w 9999 27 _ _ hS hp]
  simp only [Program.fieldsOf, Tryd.underlying27]
  go_simp
/-- behind gantref5.Path -/
def StT (w : World) (l : List (Nat × TypeId × Array Value)) (b v : Rat) (x : Value × Nat × Bool × Nat) (W : World) : Prop :=
  PathEnd b v x.2.1 ∧ (x.2.2.1 = true ↔ pathV b v x.2.1 = 0) ∧ In w l W ∧ x.2.2.2 ≤ W.heap.size ∧ SlQ W x.2.2.2 x.1 ((pathL b 0 v x.2.1).map toQ3)
theorem StT.lasts (w : World) (l : List (Nat × TypeId × Array Value)) (b v : Rat) (x : Value × Nat × Bool × Nat) : Lasts (StT w l b v x) := fun W W' ⟨h1, h2, h3, h4, h5⟩ hb =>
  ⟨h1, h2, h3.call hb, Nat.le_trans h4 hb.size, h5.below (hb.mono h4)⟩
set_option maxRecDepth 100000 in
set_option maxHeartbeats 8000000 in
theorem walk (vl vv : Value) (w : World) {b0 b1 : Nat} (f0 : LinkArg w vl b0) (f1 : QuotArg w vv b1) (hT : TabW w) (hk : b0 + b1 ≤ 1048576) :
    Calls Tryd.prog 13 #[vl, vv] w fun e w' => e = .returned (.bool true) ∧ Below w.heap.size w w' := by
  obtain ⟨k, rfl, hk0, _⟩ := f0
  obtain ⟨v, rfl, hv⟩ := f1
  obtain ⟨_, _, _, _, hb⟩ := hk0
  replace hb : k.brake.le 1048576 := hb.more (by omega)
  replace hv : v.le 1048576 := hv.more (by omega)
  have HT := Lib.hid hT
  have ST := stopsR w hT
  obtain ⟨n, e, z, hTI, hze, hz0, hzl, TK, WY⟩ := wayR w hT k v hv hb
  obtain ⟨zs, qs, cs, ls, SL⟩ := slowerR w hT k.brake v hv hb
  obtain ⟨z0, q0, c0, l0, O0⟩ := ofR w hT 0
  obtain ⟨cb, _, pb, _, SG⟩ := signR w hT k.brake hb
  have hq0 : z0.q = 0 := q0
  have ge := guard_quot
  have hI := ((In.start w).alloc 86 #[.bool k.len.neg, .string k.len.num, .string k.len.den, .bool k.low.neg, .string k.low.num, .string k.low.den, .bool k.high.neg, .string k.high.num, .string k.high.den, .bool k.speed.neg, .string k.speed.num, .string k.speed.den, .bool k.brake.neg, .string k.brake.num, .string k.brake.den, k.shape]).alloc 27 #[.bool v.neg, .string v.num, .string v.den]
  rw [World.size_alloc] at hI
  have HTI := Lib.hid hTI
  have HZE := Lib.hid hze
  have HZ0 := Lib.hid hz0
  have HQS := Lib.hid qs
  have HQ0 := Lib.hid hq0
  have HPB := Lib.hid pb
  clear hT hTI hze hz0 qs hq0 pb q0
  go_enter Tryd.func13, Tryd.ntmps13
  go_upto_region 1 with (fail)
  generalize World.alloc _ _ = W1 at hI ⊢
  have fx := hI.facts
  simp only [factsOf, cellsOf, Nat.zero_add, Nat.reduceAdd] at fx
  go_wp2_with fail
  refine (ST.out _ hI.bel).mono ?_
  rintro e wn ⟨rfl, hb⟩
  replace hI := hI.call hb
  clear hb
  clear fx
  have fx := hI.facts
  simp only [factsOf, cellsOf, Nat.zero_add, Nat.reduceAdd] at fx
  go_wp2_with fail
  refine (TK.out _ hI.bel).mono ?_
  rintro e wn ⟨rfl, hb⟩
  replace hI := hI.call hb
  clear hb
  clear fx
  have fx := hI.facts
  simp only [factsOf, cellsOf, Nat.zero_add, Nat.reduceAdd] at fx
  go_wp2_with fail
  refine (WY.out _ hI.bel).mono ?_
  rintro e wn ⟨rfl, hb⟩
  replace hI := hI.call hb
  clear hb
  clear fx
  replace hI := hI.alloc 27 #[.bool z.neg, .string z.num, .string z.den]
  obtain ⟨g7, hg7⟩ : ∃ g, g = wn.heap.size := ⟨_, rfl⟩
  go_upto_region 5 with (fail)
  rw [← hg7] at hI ⊢
  generalize World.alloc _ _ = W2 at hI ⊢
  clear hg7
  have fx := hI.facts
  simp only [factsOf, cellsOf, Nat.zero_add, Nat.reduceAdd] at fx
  go_wp2_with fail
  refine (SL.out _ hI.bel).mono ?_
  rintro e wn ⟨rfl, hb⟩
  replace hI := hI.call hb
  clear hb
  clear fx
  replace hI := hI.alloc 27 #[.bool zs.neg, .string zs.num, .string zs.den]
  obtain ⟨g9, hg9⟩ : ∃ g, g = wn.heap.size := ⟨_, rfl⟩
  go_upto_region 6 with (fail)
  rw [← hg9] at hI ⊢
  generalize World.alloc _ _ = W3 at hI ⊢
  clear hg9
  have fx := hI.facts
  simp only [factsOf, cellsOf, Nat.zero_add, Nat.reduceAdd] at fx
  go_wp2_with fail
  refine (SG.out _ hI.bel).mono ?_
  rintro e wn ⟨rfl, hb⟩
  replace hI := hI.call hb
  clear hb
  clear fx
  by_cases hA : cb ≤ 0
  ·
    have hb0 : k.brake.q ≤ 0 := Rat.not_lt.mp fun h => by have := HPB.out.mpr h; omega
    obtain ⟨rfl, rfl⟩ : n = 0 ∧ e = 1 := by
      rcases HTI.out with ⟨_, h1, h2⟩ | ⟨h, _⟩ | ⟨h, _⟩
      · exact ⟨h1, h2⟩
      · grind
      · grind
    obtain rfl : z = nilQ3 := HZE.out (by decide)
    obtain rfl : zs = z0 := cs.eq c0 (by rw [HQS.out, HQ0.out]; unfold slowQ; rw [if_pos (.inl hb0)])
    have hn1 := fun W => eql_quot W nilQ3
    have hn2 := fun W => eql_quot W zs
    simp only [nilQ3] at hI hn1
    clear TK WY SL SG ST
    go_upto_region 7 with (fail)
    refine wp_region_in hI (by kernel_rfl) (by kernel_rfl) ?_
    repeat (first
      | (refine wpSeq_off (by rfl) ?_; try simp only [Act.put, List.setIfInBounds_toArray, List.set_cons_zero, List.set_cons_succ])
      | (refine wpSeq_val (v := ?_) (by rfl) (fun W hS => ?_) ?_
         rotate_left
         · (have fx := hS.facts; simp only [factsOf, cellsOf, Nat.zero_add, Nat.reduceAdd] at fx; clear hS; go_simp; first | done | with_reducible rfl)
         try simp only [Act.put, List.setIfInBounds_toArray, List.set_cons_zero, List.set_cons_succ]))
    refine wpSeq_call (v := .agg #[.bool zs.neg, .string zs.num, .string zs.den]) (by rfl) (fun W hS => ?_) (fun W hS => (O0.out W hS.bel)) ?_
    · (clear hS; go_simp; done)
    try simp only [Act.put, List.setIfInBounds_toArray, List.set_cons_zero, List.set_cons_succ]
    repeat (first
      | (refine wpSeq_off (by rfl) ?_; try simp only [Act.put, List.setIfInBounds_toArray, List.set_cons_zero, List.set_cons_succ])
      | (refine wpSeq_val (v := ?_) (by rfl) (fun W hS => ?_) ?_
         rotate_left
         · (have fx := hS.facts; simp only [factsOf, cellsOf, Nat.zero_add, Nat.reduceAdd] at fx; clear hS; go_simp; first | done | with_reducible rfl)
         try simp only [Act.put, List.setIfInBounds_toArray, List.set_cons_zero, List.set_cons_succ]))
    refine wpSeq_nil (fun W hS => ?_)
    clear hI
    go_wp2
    go_ret
    exact ⟨rfl, hS.bel⟩
  · have hb0 : 0 < k.brake.q := HPB.out.mp (by omega)
    obtain ⟨a, qa, _, la, Ab⟩ := absR w HT.out v hv
    obtain ⟨zt, qt, _, lt, Ot⟩ := ofR w HT.out 2000
    obtain ⟨m, qm, _, lm, Mu⟩ := mulR w HT.out k.brake zt hb lt
    obtain ⟨c, _, pc, _, Cm⟩ := cmpR w HT.out a m la lm
    have hc : c > 0 ↔ 2000 * k.brake.q < absQ v.q := by
      have e1 : zt.q = 2000 := qt
      rw [show c > 0 ↔ m.q < a.q from pc, qm, qa, e1, Rat.mul_comm]
    clear qa qt qm pc
    have HC := Lib.hid hc
    go_upto_region 8 with (fail)
    by_cases hB : c > 0
    ·
      have hfar := HC.out.mp hB
      obtain ⟨rfl, rfl⟩ : n = 0 ∧ e = 2 := by
        rcases HTI.out with ⟨h, _⟩ | ⟨_, _, h1, h2⟩ | ⟨_, h, _⟩
        · grind
        · exact ⟨h1, h2⟩
        · grind
      obtain rfl : z = nilQ3 := HZE.out (by decide)
      have hn1 := fun W => eql_quot W nilQ3
      simp only [nilQ3] at hI hn1
      clear TK WY SL SG ST hc hfar
      refine wp_region_in hI (by kernel_rfl) (by kernel_rfl) ?_
      repeat (first
        | (refine wpSeq_off (by rfl) ?_; try simp only [Act.put, List.setIfInBounds_toArray, List.set_cons_zero, List.set_cons_succ])
        | (refine wpSeq_val (v := ?_) (by rfl) (fun W hS => ?_) ?_
           rotate_left
           · (have fx := hS.facts; simp only [factsOf, cellsOf, Nat.zero_add, Nat.reduceAdd] at fx; clear hS; go_simp; first | done | with_reducible rfl)
           try simp only [Act.put, List.setIfInBounds_toArray, List.set_cons_zero, List.set_cons_succ]))
      refine wpSeq_call (v := .agg #[.bool a.neg, .string a.num, .string a.den]) (by rfl) (fun W hS => ?_) (fun W hS => (Ab.out W hS.bel)) ?_
      · (clear hS; go_simp; done)
      try simp only [Act.put, List.setIfInBounds_toArray, List.set_cons_zero, List.set_cons_succ]
      repeat (first
        | (refine wpSeq_off (by rfl) ?_; try simp only [Act.put, List.setIfInBounds_toArray, List.set_cons_zero, List.set_cons_succ])
        | (refine wpSeq_val (v := ?_) (by rfl) (fun W hS => ?_) ?_
           rotate_left
           · (have fx := hS.facts; simp only [factsOf, cellsOf, Nat.zero_add, Nat.reduceAdd] at fx; clear hS; go_simp; first | done | with_reducible rfl)
           try simp only [Act.put, List.setIfInBounds_toArray, List.set_cons_zero, List.set_cons_succ]))
      refine wpSeq_call (v := .agg #[.bool zt.neg, .string zt.num, .string zt.den]) (by rfl) (fun W hS => ?_) (fun W hS => (Ot.out W hS.bel)) ?_
      · (clear hS; go_simp; done)
      try simp only [Act.put, List.setIfInBounds_toArray, List.set_cons_zero, List.set_cons_succ]
      repeat (first
        | (refine wpSeq_off (by rfl) ?_; try simp only [Act.put, List.setIfInBounds_toArray, List.set_cons_zero, List.set_cons_succ])
        | (refine wpSeq_val (v := ?_) (by rfl) (fun W hS => ?_) ?_
           rotate_left
           · (have fx := hS.facts; simp only [factsOf, cellsOf, Nat.zero_add, Nat.reduceAdd] at fx; clear hS; go_simp; first | done | with_reducible rfl)
           try simp only [Act.put, List.setIfInBounds_toArray, List.set_cons_zero, List.set_cons_succ]))
      refine wpSeq_call (v := .agg #[.bool m.neg, .string m.num, .string m.den]) (by rfl) (fun W hS => ?_) (fun W hS => (Mu.out W hS.bel)) ?_
      · (clear hS; go_simp; done)
      try simp only [Act.put, List.setIfInBounds_toArray, List.set_cons_zero, List.set_cons_succ]
      repeat (first
        | (refine wpSeq_off (by rfl) ?_; try simp only [Act.put, List.setIfInBounds_toArray, List.set_cons_zero, List.set_cons_succ])
        | (refine wpSeq_val (v := ?_) (by rfl) (fun W hS => ?_) ?_
           rotate_left
           · (have fx := hS.facts; simp only [factsOf, cellsOf, Nat.zero_add, Nat.reduceAdd] at fx; clear hS; go_simp; first | done | with_reducible rfl)
           try simp only [Act.put, List.setIfInBounds_toArray, List.set_cons_zero, List.set_cons_succ]))
      refine wpSeq_call (v := .int .i64 c) (by rfl) (fun W hS => ?_) (fun W hS => (Cm.out W hS.bel)) ?_
      · (clear hS; go_simp; done)
      try simp only [Act.put, List.setIfInBounds_toArray, List.set_cons_zero, List.set_cons_succ]
      repeat (first
        | (refine wpSeq_off (by rfl) ?_; try simp only [Act.put, List.setIfInBounds_toArray, List.set_cons_zero, List.set_cons_succ])
        | (refine wpSeq_val (v := ?_) (by rfl) (fun W hS => ?_) ?_
           rotate_left
           · (have fx := hS.facts; simp only [factsOf, cellsOf, Nat.zero_add, Nat.reduceAdd] at fx; clear hS; go_simp; first | done | with_reducible rfl)
           try simp only [Act.put, List.setIfInBounds_toArray, List.set_cons_zero, List.set_cons_succ]))
      refine wpSeq_nil (fun W hS => ?_)
      clear hI
      go_upto_region 9 with (fail)
      refine wp_region_in_plain_all hS ?_
      repeat (first
        | (refine wpSeq_off (by rfl) ?_; try simp only [Act.put, List.setIfInBounds_toArray, List.set_cons_zero, List.set_cons_succ])
        | (refine wpSeq_val (v := ?_) (by rfl) (fun W hS => ?_) ?_
           rotate_left
           · (have fx := hS.facts; simp only [factsOf, cellsOf, Nat.zero_add, Nat.reduceAdd] at fx; clear hS; go_simp; first | done | with_reducible rfl)
           try simp only [Act.put, List.setIfInBounds_toArray, List.set_cons_zero, List.set_cons_succ]))
      refine wpSeq_nil (fun W hS => ?_)
      go_wp2
      go_ret
      exact ⟨rfl, hS.bel⟩
    · have hnear : absQ v.q ≤ 2000 * k.brake.q := Rat.not_lt.mp fun h => hB (HC.out.mpr h)
      obtain rfl : e = 0 := by
        rcases HTI.out with ⟨h, _⟩ | ⟨_, h, _⟩ | ⟨_, _, h, _⟩
        · grind
        · grind
        · exact h
      obtain ⟨hzq, hzc⟩ := HZ0.out rfl
      obtain ⟨v', qv, cv, lv, GD⟩ := goodR w HT.out v hv
      have HPA := Lib.hid (fun W hW => path_any W k.brake z0 v' (N := 2097152) (M := 1048576) c0 hb (l0.more (by decide)) (lv.more (by decide)) hb0 (by decide) (tabs w HT.out hW))
      rw [qv, HQ0.out] at HPA
      have HZQ := Lib.hid hzq
      have HZC := Lib.hid hzc
      clear TK WY SL SG ST hc hnear qv hzq hzc
      refine wp_region_in hI (by kernel_rfl) (by kernel_rfl) ?_
      repeat (first
        | (refine wpSeq_off (by rfl) ?_; try simp only [Act.put, List.setIfInBounds_toArray, List.set_cons_zero, List.set_cons_succ])
        | (refine wpSeq_val (v := ?_) (by rfl) (fun W hS => ?_) ?_
           rotate_left
           · (have fx := hS.facts; simp only [factsOf, cellsOf, Nat.zero_add, Nat.reduceAdd] at fx; clear hS; go_simp; first | done | with_reducible rfl)
           try simp only [Act.put, List.setIfInBounds_toArray, List.set_cons_zero, List.set_cons_succ]))
      refine wpSeq_call (v := .agg #[.bool a.neg, .string a.num, .string a.den]) (by rfl) (fun W hS => ?_) (fun W hS => (Ab.out W hS.bel)) ?_
      · (clear hS; go_simp; done)
      try simp only [Act.put, List.setIfInBounds_toArray, List.set_cons_zero, List.set_cons_succ]
      repeat (first
        | (refine wpSeq_off (by rfl) ?_; try simp only [Act.put, List.setIfInBounds_toArray, List.set_cons_zero, List.set_cons_succ])
        | (refine wpSeq_val (v := ?_) (by rfl) (fun W hS => ?_) ?_
           rotate_left
           · (have fx := hS.facts; simp only [factsOf, cellsOf, Nat.zero_add, Nat.reduceAdd] at fx; clear hS; go_simp; first | done | with_reducible rfl)
           try simp only [Act.put, List.setIfInBounds_toArray, List.set_cons_zero, List.set_cons_succ]))
      refine wpSeq_call (v := .agg #[.bool zt.neg, .string zt.num, .string zt.den]) (by rfl) (fun W hS => ?_) (fun W hS => (Ot.out W hS.bel)) ?_
      · (clear hS; go_simp; done)
      try simp only [Act.put, List.setIfInBounds_toArray, List.set_cons_zero, List.set_cons_succ]
      repeat (first
        | (refine wpSeq_off (by rfl) ?_; try simp only [Act.put, List.setIfInBounds_toArray, List.set_cons_zero, List.set_cons_succ])
        | (refine wpSeq_val (v := ?_) (by rfl) (fun W hS => ?_) ?_
           rotate_left
           · (have fx := hS.facts; simp only [factsOf, cellsOf, Nat.zero_add, Nat.reduceAdd] at fx; clear hS; go_simp; first | done | with_reducible rfl)
           try simp only [Act.put, List.setIfInBounds_toArray, List.set_cons_zero, List.set_cons_succ]))
      refine wpSeq_call (v := .agg #[.bool m.neg, .string m.num, .string m.den]) (by rfl) (fun W hS => ?_) (fun W hS => (Mu.out W hS.bel)) ?_
      · (clear hS; go_simp; done)
      try simp only [Act.put, List.setIfInBounds_toArray, List.set_cons_zero, List.set_cons_succ]
      repeat (first
        | (refine wpSeq_off (by rfl) ?_; try simp only [Act.put, List.setIfInBounds_toArray, List.set_cons_zero, List.set_cons_succ])
        | (refine wpSeq_val (v := ?_) (by rfl) (fun W hS => ?_) ?_
           rotate_left
           · (have fx := hS.facts; simp only [factsOf, cellsOf, Nat.zero_add, Nat.reduceAdd] at fx; clear hS; go_simp; first | done | with_reducible rfl)
           try simp only [Act.put, List.setIfInBounds_toArray, List.set_cons_zero, List.set_cons_succ]))
      refine wpSeq_call (v := .int .i64 c) (by rfl) (fun W hS => ?_) (fun W hS => (Cm.out W hS.bel)) ?_
      · (clear hS; go_simp; done)
      try simp only [Act.put, List.setIfInBounds_toArray, List.set_cons_zero, List.set_cons_succ]
      repeat (first
        | (refine wpSeq_off (by rfl) ?_; try simp only [Act.put, List.setIfInBounds_toArray, List.set_cons_zero, List.set_cons_succ])
        | (refine wpSeq_val (v := ?_) (by rfl) (fun W hS => ?_) ?_
           rotate_left
           · (have fx := hS.facts; simp only [factsOf, cellsOf, Nat.zero_add, Nat.reduceAdd] at fx; clear hS; go_simp; first | done | with_reducible rfl)
           try simp only [Act.put, List.setIfInBounds_toArray, List.set_cons_zero, List.set_cons_succ]))
      refine wpSeq_nil (fun W hS => ?_)
      clear hI
      obtain ⟨l4, hl4⟩ : ∃ l4 : List (Nat × TypeId × Array Value), l4 = [(g9, 27, #[.bool zs.neg, .string zs.num, .string zs.den]), (g7, 27, #[.bool z.neg, .string z.num, .string z.den]), (w.heap.size + 1, 27, #[.bool v.neg, .string v.num, .string v.den]), (w.heap.size, 86, #[.bool k.len.neg, .string k.len.num, .string k.len.den, .bool k.low.neg, .string k.low.num, .string k.low.den, .bool k.high.neg, .string k.high.num, .string k.high.den, .bool k.speed.neg, .string k.speed.num, .string k.speed.den, .bool k.brake.neg, .string k.brake.num, .string k.brake.den, k.shape])] := ⟨_, rfl⟩
      have Hl4 := Lib.hid hl4
      clear hl4
      go_upto_region 10 with (fail)
      go_cut [10, 11] (fun p d wx => ∃ (mm : Nat) (B : Nat) (dd : Bool), d = .bool dd ∧ StT w l4 k.brake.q v.q (p, mm, dd, B) wx)
      case first =>
        as_aux_lemma =>
          have HPC : ∀ W, In w [(g9, 27, #[.bool zs.neg, .string zs.num, .string zs.den]), (g7, 27, #[.bool z.neg, .string z.num, .string z.den]), (w.heap.size + 1, 27, #[.bool v.neg, .string v.num, .string v.den]), (w.heap.size, 86, #[.bool k.len.neg, .string k.len.num, .string k.len.den, .bool k.low.neg, .string k.low.num, .string k.low.den, .bool k.high.neg, .string k.high.num, .string k.high.den, .bool k.speed.neg, .string k.speed.num, .string k.speed.den, .bool k.brake.neg, .string k.brake.num, .string k.brake.den, k.shape])] W → Calls Tryd.prog 62 #[.agg #[.bool k.brake.neg, .string k.brake.num, .string k.brake.den], .agg #[.bool z0.neg, .string z0.num, .string z0.den], .agg #[.bool v'.neg, .string v'.num, .string v'.den], .int .i64 2000] W fun e w'' => ∃ x : Value × Nat × Bool × Nat, e = .returned (.tuple #[x.1, .bool x.2.2.1]) ∧ StT w [(g9, 27, #[.bool zs.neg, .string zs.num, .string zs.den]), (g7, 27, #[.bool z.neg, .string z.num, .string z.den]), (w.heap.size + 1, 27, #[.bool v.neg, .string v.num, .string v.den]), (w.heap.size, 86, #[.bool k.len.neg, .string k.len.num, .string k.len.den, .bool k.low.neg, .string k.low.num, .string k.low.den, .bool k.high.neg, .string k.high.num, .string k.high.den, .bool k.speed.neg, .string k.speed.num, .string k.speed.den, .bool k.brake.neg, .string k.brake.num, .string k.brake.den, k.shape])] k.brake.q v.q x w'' := by
            intro W hW
            refine (HPA.out W hW.bel).mono ?_
            rintro e w' ⟨p, mm, dd, rfl, hd, hE, ho, hb⟩
            exact ⟨⟨p, mm, dd, w'.heap.size⟩, rfl, hE, hd, hW.call hb, Nat.le_refl _, SlQ.own ho⟩
          refine wp_region_in_mid 5 (fun x : Value × Nat × Bool × Nat => Value.tuple #[x.1, .bool x.2.2.1]) (StT w [(g9, 27, #[.bool zs.neg, .string zs.num, .string zs.den]), (g7, 27, #[.bool z.neg, .string z.num, .string z.den]), (w.heap.size + 1, 27, #[.bool v.neg, .string v.num, .string v.den]), (w.heap.size, 86, #[.bool k.len.neg, .string k.len.num, .string k.len.den, .bool k.low.neg, .string k.low.num, .string k.low.den, .bool k.high.neg, .string k.high.num, .string k.high.den, .bool k.speed.neg, .string k.speed.num, .string k.speed.den, .bool k.brake.neg, .string k.brake.num, .string k.brake.den, k.shape])] k.brake.q v.q) (StT.lasts _ _ _ _) _ hS (by kernel_rfl) (by kernel_rfl) rfl ?_
          simp only [List.take_succ_cons, List.take_zero, List.drop_succ_cons, List.drop_zero]
          repeat (first
            | (refine wpSeq_off (by rfl) ?_; try simp only [Act.put, List.setIfInBounds_toArray, List.set_cons_zero, List.set_cons_succ])
            | (refine wpSeq_val (v := ?_) (by rfl) (fun W hS => ?_) ?_
               rotate_left
               · (have fx := hS.facts; simp only [factsOf, cellsOf, Nat.zero_add, Nat.reduceAdd] at fx; clear hS; go_simp; first | done | with_reducible rfl)
               try simp only [Act.put, List.setIfInBounds_toArray, List.set_cons_zero, List.set_cons_succ]))
          refine wpSeq_call (v := .agg #[.bool z0.neg, .string z0.num, .string z0.den]) (by rfl) (fun W hS => ?_) (fun W hS => (O0.out W hS.bel)) ?_
          · (clear hS; go_simp; done)
          try simp only [Act.put, List.setIfInBounds_toArray, List.set_cons_zero, List.set_cons_succ]
          repeat (first
            | (refine wpSeq_off (by rfl) ?_; try simp only [Act.put, List.setIfInBounds_toArray, List.set_cons_zero, List.set_cons_succ])
            | (refine wpSeq_val (v := ?_) (by rfl) (fun W hS => ?_) ?_
               rotate_left
               · (have fx := hS.facts; simp only [factsOf, cellsOf, Nat.zero_add, Nat.reduceAdd] at fx; clear hS; go_simp; first | done | with_reducible rfl)
               try simp only [Act.put, List.setIfInBounds_toArray, List.set_cons_zero, List.set_cons_succ]))
          refine wpSeq_call (v := .agg #[.bool v'.neg, .string v'.num, .string v'.den]) (by rfl) (fun W hS => ?_) (fun W hS => (GD.out W hS.bel)) ?_
          · (clear hS; go_simp; done)
          try simp only [Act.put, List.setIfInBounds_toArray, List.set_cons_zero, List.set_cons_succ]
          repeat (first
            | (refine wpSeq_off (by rfl) ?_; try simp only [Act.put, List.setIfInBounds_toArray, List.set_cons_zero, List.set_cons_succ])
            | (refine wpSeq_val (v := ?_) (by rfl) (fun W hS => ?_) ?_
               rotate_left
               · (have fx := hS.facts; simp only [factsOf, cellsOf, Nat.zero_add, Nat.reduceAdd] at fx; clear hS; go_simp; first | done | with_reducible rfl)
               try simp only [Act.put, List.setIfInBounds_toArray, List.set_cons_zero, List.set_cons_succ]))
          refine wpSeq_nil ⟨⟨rfl, fun W hS => ⟨_, _, ?_, HPC W hS⟩⟩, fun x => ?_⟩
          · (clear hS; go_simp; done)
          obtain ⟨p, mm, dd, B⟩ := x
          simp only [List.setIfInBounds_toArray, List.set_cons_zero, List.set_cons_succ]
          repeat (first
            | (refine wpSeq_off (by rfl) ?_; try simp only [Act.put, List.setIfInBounds_toArray, List.set_cons_zero, List.set_cons_succ])
            | (refine wpSeq_val (v := ?_) (by rfl) (fun W hS => ?_) ?_
               rotate_left
               · (clear hS; go_simp; first | done | with_reducible rfl)
               try simp only [Act.put, List.setIfInBounds_toArray, List.set_cons_zero, List.set_cons_succ]))
          refine wpSeq_nil (fun W hS => ?_)
          go_wp2_with fail
          go_meet
          exact ⟨mm, B, dd, rfl, by rw [Hl4.out]; exact hS⟩
      case rest =>
        clear hS HPA O0 GD
        obtain ⟨mm, B, dd, rfl, hE, hd, hI, hB1, hsl⟩ := hcut
        dsimp only at hE hd hI hB1 hsl
        obtain ⟨hnm, hp0⟩ := path_ticks HTI.out hE
        have hwy := wayQ_path (q := 0) HTI.out hnm
        have HSL := Lib.hid (slow_path (v := v.q) hb0)
        obtain rfl : dd = true := hd.mpr hp0
        rw [Hl4.out] at hI
        subst hnm
        obtain ⟨A, nn, cc, rfl, hln, hnc, hA, hrd⟩ := hsl
        rw [List.length_map, pathL_length] at hln
        subst hln
        have hg : ∀ j, j ≤ mm → ((pathL k.brake.q 0 v.q mm).map toQ3)[j]? = some (toQ3 (pathQ k.brake.q 0 v.q j)) := fun j hj => by rw [List.getElem?_map, pathL_get _ _ _ hj]; rfl
        have hz : z = toQ3 (pathQ k.brake.q 0 v.q mm) := by
          have h1 : z = toQ3 z.q := HZC.out
          rw [h1, HZQ.out, hwy, Rat.zero_add]
        obtain ⟨b, o, rfl, hbB, _⟩ := Rd.quot hrd (hg 0 (Nat.zero_le _))
        have HQ := Lib.hid (show ∀ W, (B ≤ W.heap.size ∧ Rd W B 3 (some ⟨b, o, none⟩) (mm + 1) (((pathL k.brake.q 0 v.q mm).map toQ3).flatMap encQ)) → b < W.heap.size ∧ W.cell? ⟨b, o + mm * 3, none⟩ = some (.bool z.neg) ∧ W.cell? ⟨b, o + mm * 3 + 1, none⟩ = some (.string z.num) ∧ W.cell? ⟨b, o + mm * 3 + 2, none⟩ = some (.string z.den) from by
          intro W ⟨h1, h2⟩
          obtain ⟨b', o', he, _, h4, h5, h6⟩ := Rd.quot h2 (hg mm (Nat.le_refl _))
          cases he
          rw [← hz] at h4 h5 h6
          exact ⟨by omega, h4, h5, h6⟩)
        have HK := Lib.hid (show LastsK (fun W => B ≤ W.heap.size ∧ Rd W B 3 (some ⟨b, o, none⟩) (mm + 1) (((pathL k.brake.q 0 v.q mm).map toQ3).flatMap encQ)) from fun W W' h hb => ⟨Nat.le_trans h.1 hb.size, h.2.below (hb.mono h.1)⟩)
        have hJ : InK w _ (fun W => B ≤ W.heap.size ∧ Rd W B 3 (some ⟨b, o, none⟩) (mm + 1) (((pathL k.brake.q 0 v.q mm).map toQ3).flatMap encQ)) wc := ⟨hI, hB1, hrd⟩
        have hE2000 := hE.1
        have hmi : (mm : Int) < (mm : Int) + 1 := by omega
        have hmb : 0 ≤ (mm : Int) ∧ (mm : Int) < ((mm + 1 : Nat) : Int) := by omega
        have hmw : IntKind.i64.wrap (mm : Int) = (mm : Int) := by rw [IntKind.wrap_i64]; omega
        have hn1 := fun W => neq_quot W z
        have HHG := Lib.hid hg
        clear hI hrd hB1 hz hwy hE hd hg hnc hA
        go_upto_region 11 with (fail)
        refine wp_region_inK HK.out hJ (by kernel_rfl) (by kernel_rfl) ?_
        repeat (first
          | (refine wpSeq_off (by rfl) ?_; try simp only [Act.put, List.setIfInBounds_toArray, List.set_cons_zero, List.set_cons_succ])
          | (refine wpSeq_val (v := ?_) (by rfl) (fun W hS => ?_) ?_
             rotate_left
             · ((have fx := hS.facts; simp only [factsOf, cellsOf, Nat.zero_add, Nat.reduceAdd] at fx; have fy := HQ.out W hS.k; clear hS); go_simp; first | done | with_reducible rfl)
             try simp only [Act.put, List.setIfInBounds_toArray, List.set_cons_zero, List.set_cons_succ]))
        refine wpSeq_nil (fun W hS => ?_)
        clear hJ
        have HP0 := Lib.hid hp0
        clear hp0
        go_upto_region 13 with (fail)
        rcases Nat.eq_zero_or_pos mm with hm0 | hm0
        · subst hm0
          obtain ⟨z1, q1, c1, _, O1⟩ := ofR w HT.out 0
          obtain rfl : zs = z1 := cs.eq c1 (by
            have h1 : v.q = 0 := HP0.out
            rw [HQS.out, show z1.q = 0 from q1, h1]
            unfold slowQ
            rw [if_pos (.inr (by rw [show absQ 0 = 0 from by decide +kernel]; exact Rat.le_of_lt hb0))])
          have hn2 := fun W => eql_quot W zs
          clear q1 c1
          go_upto_region 14 with (fail)
          refine wp_region_inK HK.out hS (by kernel_rfl) (by kernel_rfl) ?_
          repeat (first
            | (refine wpSeq_off (by rfl) ?_; try simp only [Act.put, List.setIfInBounds_toArray, List.set_cons_zero, List.set_cons_succ])
            | (refine wpSeq_val (v := ?_) (by rfl) (fun W hS => ?_) ?_
               rotate_left
               · (have fx := hS.facts; simp only [factsOf, cellsOf, Nat.zero_add, Nat.reduceAdd] at fx; clear hS; go_simp; first | done | with_reducible rfl)
               try simp only [Act.put, List.setIfInBounds_toArray, List.set_cons_zero, List.set_cons_succ]))
          refine wpSeq_call (v := .agg #[.bool zs.neg, .string zs.num, .string zs.den]) (by rfl) (fun W hS => ?_) (fun W hS => (O1.out W hS.bel)) ?_
          · (clear hS; go_simp; done)
          try simp only [Act.put, List.setIfInBounds_toArray, List.set_cons_zero, List.set_cons_succ]
          repeat (first
            | (refine wpSeq_off (by rfl) ?_; try simp only [Act.put, List.setIfInBounds_toArray, List.set_cons_zero, List.set_cons_succ])
            | (refine wpSeq_val (v := ?_) (by rfl) (fun W hS => ?_) ?_
               rotate_left
               · (have fx := hS.facts; simp only [factsOf, cellsOf, Nat.zero_add, Nat.reduceAdd] at fx; clear hS; go_simp; first | done | with_reducible rfl)
               try simp only [Act.put, List.setIfInBounds_toArray, List.set_cons_zero, List.set_cons_succ]))
          refine wpSeq_nil (fun W hS => ?_)
          go_wp2
          go_ret
          exact ⟨rfl, hS.bel⟩
        · have hm1 : ¬ (mm : Int) + 1 = 1 := by omega
          have hm2 : ((mm : Int) + 1 == 1) = false := by simpa using hm1
          have hm3 : (1 : Int) < ((mm + 1 : Nat) : Int) := by omega
          have hm4 : (1 : Int) < (mm : Int) + 1 := by omega
          obtain ⟨y, hy⟩ : ∃ y, y = toQ3 (pathQ k.brake.q 0 v.q 1) := ⟨_, rfl⟩
          have hzy : zs = y := by
            have h1 : zs = toQ3 zs.q := cs
            rw [hy, h1, HQS.out, HSL.out]
            show _ = toQ3 (0 + pathV k.brake.q v.q 1)
            rw [Rat.zero_add]
          have HQ1 := Lib.hid (show ∀ W, (B ≤ W.heap.size ∧ Rd W B 3 (some ⟨b, o, none⟩) (mm + 1) (((pathL k.brake.q 0 v.q mm).map toQ3).flatMap encQ)) → b < W.heap.size ∧ W.cell? ⟨b, o + 3, none⟩ = some (.bool zs.neg) ∧ W.cell? ⟨b, o + 3 + 1, none⟩ = some (.string zs.num) ∧ W.cell? ⟨b, o + 3 + 2, none⟩ = some (.string zs.den) from by
            intro W ⟨h1, h2⟩
            obtain ⟨b', o', he, _, h4, h5, h6⟩ := Rd.quot h2 (HHG.out 1 hm0)
            cases he
            rw [← hy, ← hzy, Nat.one_mul] at h4 h5 h6
            exact ⟨by omega, h4, h5, h6⟩)
          have hn2 := fun W => eql_quot W zs
          clear hzy hy
          go_upto_region 15 with (fail)
          refine wp_region_inK HK.out hS (by kernel_rfl) (by kernel_rfl) ?_
          repeat (first
            | (refine wpSeq_off (by rfl) ?_; try simp only [Act.put, List.setIfInBounds_toArray, List.set_cons_zero, List.set_cons_succ])
            | (refine wpSeq_val (v := ?_) (by rfl) (fun W hS => ?_) ?_
               rotate_left
               · ((have fx := hS.facts; simp only [factsOf, cellsOf, Nat.zero_add, Nat.reduceAdd] at fx; have fy := HQ1.out W hS.k; clear hS); go_simp; first | done | with_reducible rfl)
               try simp only [Act.put, List.setIfInBounds_toArray, List.set_cons_zero, List.set_cons_succ]))
          refine wpSeq_nil (fun W hS => ?_)
          go_wp2
          go_ret
          exact ⟨rfl, hS.bel⟩
end Go.Proofs.YthmgcbpmfipfiaaDoor.stopTells
