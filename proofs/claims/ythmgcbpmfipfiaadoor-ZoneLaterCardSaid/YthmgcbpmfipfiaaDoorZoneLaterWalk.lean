/- ZoneLater: the walk. Conditions: those typed. -/
import Derived.Test.YthmgcbpmfipfiaaDoorWhen
import Derived.Test.YthmgcbpmfipfiaaDoorPolyP
import Derived.Test.YthmgcbpmfipfiaaDoorTwoF
import Derived.Test.YthmgcbpmfipfiaaDoorZoneWalksWalk
namespace Go.Proofs.YthmgcbpmfipfiaaDoor.zoneLater
open Go.RowKit Go.Gy
set_option linter.unusedVariables false
theorem wf_i64 {n : Int} (h : wfI .i64 n) : -9223372036854775808 ≤ n ∧ n ≤ 9223372036854775807 := by
  simpa [wfI, Lit.wf, IntKind.min, IntKind.max, IntKind.signed, IntKind.bits] using h
theorem inB_low {p q f f' : Rat} (h0 : 0 ≤ f) (h : f ≤ f') : inB (p - f') (q - f') (p + f') (q + f') (p - f) (q - f) = true := by
  unfold inB
  rw [decide_eq_true (by grind), decide_eq_true (by grind), decide_eq_true (by grind), decide_eq_true (by grind)]; rfl
theorem inB_high {p q f f' : Rat} (h0 : 0 ≤ f) (h : f ≤ f') : inB (p - f') (q - f') (p + f') (q + f') (p + f) (q + f) = true := by
  unfold inB
  rw [decide_eq_true (by grind), decide_eq_true (by grind), decide_eq_true (by grind), decide_eq_true (by grind)]; rfl
set_option maxRecDepth 100000 in
set_option maxHeartbeats 8000000 in
theorem walk (v0 v1 : Value) (wk nn : Int) (w : World) {b0 b1 : Nat} (f0 : IntsArg w v0 b0) (f1 : IntsArg w v1 b1) (w2 : wfI .i64 wk) (w3 : wfI .i64 nn) (hT : TabW w) :
    Calls Tryd.prog 8 #[v0, v1, .int .i64 wk, .int .i64 nn] w fun e w' => e = .returned (.bool true) ∧ Below w.heap.size w w' := by
  obtain ⟨r0, hl0, _, _, hb0⟩ := f0
  obtain ⟨r1, hl1, _, _, hb1⟩ := f1
  have HT := Lib.hid hT
  have h20 := wf_i64 w2
  have h30 := wf_i64 w3
  have HZ := Lib.hid (fun W hW => zoneWalks.zones_any W (tabs w hT hW))
  have HV := Lib.hid (fun W (hW : Below w.heap.size w W) => vec_any W v0 r0 ((hl0.below hW).more hW.size) (by unfold reachBytes at hb0; omega))
  have HP1 := Lib.hid (fun W (hW : Below w.heap.size w W) => polyMake W v1 r1 ((hl1.below hW).more hW.size) (by unfold reachBytes at hb1; omega))
  obtain ⟨za, _, _, la, A1⟩ := ratMR w wk h20
  obtain ⟨x, qx, _, lx, A2⟩ := absR w hT za la
  have B1 := Lib.hid (fun W => below_any nn 40 W (by omega) (by omega))
  have a0 := Int.emod_nonneg nn (b := 40) (by omega)
  have a1 := Int.emod_lt_of_pos nn (b := 40) (by omega)
  obtain ⟨na, hna⟩ : ∃ na, na = nn % 40 := ⟨_, rfl⟩
  rw [← hna] at a0 a1 B1
  have hw2 : IntKind.i64.wrap (na + 1) = na + 1 := by rw [IntKind.wrap_i64]; omega
  have hI := In.start w
  clear hl0 hl1 hb0 hb1 w2 w3 hT h20 h30 qx hna
  go_enter Tryd.func8, Tryd.ntmps8
  go_wp2_with fail
  refine (HZ.out _ hI.bel).mono ?_
  rintro e wn ⟨rfl, hb⟩
  replace hI := hI.call hb
  clear hb
  go_wp2_with fail
  refine (HV.out _ hI.bel).mono ?_
  rintro e wn ⟨p, q, rfl, _, _, lp, lq, hb⟩
  replace hI := hI.call hb
  clear hb HV HZ
  go_wp2_with fail
  refine (A1.out _).mono ?_
  rintro e wn ⟨rfl, hb⟩
  replace hI := hI.call hb
  clear hb A1
  go_wp2_with fail
  refine (A2.out _ hI.bel).mono ?_
  rintro e wn ⟨rfl, hb⟩
  replace hI := hI.call hb
  clear hb
  replace hI := (hI.alloc 58 #[.bool p.neg, .string p.num, .string p.den, .bool q.neg, .string q.num, .string q.den]).alloc 27 #[.bool x.neg, .string x.num, .string x.den]
  rw [World.size_alloc] at hI
  obtain ⟨g, hg⟩ : ∃ g, g = wn.heap.size := ⟨_, rfl⟩
  go_upto_region 4 with (fail)
  rw [← hg] at hI ⊢
  generalize World.alloc _ _ = W1 at hI ⊢
  clear hg A2
  go_wp2_with fail
  refine (HP1.out _ hI.bel).mono ?_
  rintro e wa ⟨va, l1, rfl, hp1, hs1, hb⟩
  replace hI := hI.call hb
  have HBX := Lib.hid (box_at wa (tabs w HT.out hI.bel) va l1 hs1 hp1.le (by decide) (by have := hp1.len; omega))
  clear hb hs1 hp1 HP1
  go_wp2_with fail
  refine HBX.out.mono ?_
  rintro e wb ⟨y, rfl, _, _, ly, hb⟩
  replace hI := hI.call hb
  clear hb HBX
  replace hI := hI.alloc 64 #[.bool y.a.neg, .string y.a.num, .string y.a.den, .bool y.b.neg, .string y.b.num, .string y.b.den, .bool y.c.neg, .string y.c.num, .string y.c.den, .bool y.d.neg, .string y.d.num, .string y.d.den]
  obtain ⟨g11, hg11⟩ : ∃ g, g = wb.heap.size := ⟨_, rfl⟩
  go_upto_region 5 with (fail)
  rw [← hg11] at hI ⊢
  generalize World.alloc _ _ = W2 at hI ⊢
  clear hg11
  go_wp2_with fail
  refine (B1.out _).mono ?_
  rintro e wn ⟨rfl, rfl⟩
  obtain ⟨ea, eb, ec, ed, qea, qeb, qec, qed, _, ⟨lea, leb, lec, led⟩, R1⟩ := reachR w HT.out p q x lp lq (lx.more (show 1 ≤ 8 by decide)) na (by omega)
  obtain ⟨fa, fb, fc, fd, qfa, qfb, qfc, qfd, _, ⟨lfa, lfb, lfc, lfd⟩, R2⟩ := reachR w HT.out p q x lp lq (lx.more (show 1 ≤ 8 by decide)) (na + 1) (by omega)
  have hf0 := farV_nonneg x.q na
  have hf1 : farV x.q na ≤ farV x.q (na + 1) := farV_mono (by omega)
  have WI1 := withinR w HT.out fa fb fc fd ea eb (lfa.more (by decide)) (lfb.more (by decide)) (lfc.more (by decide)) (lfd.more (by decide)) (lea.more (by decide)) (leb.more (by decide))
  have WI2 := withinR w HT.out fa fb fc fd ec ed (lfa.more (by decide)) (lfb.more (by decide)) (lfc.more (by decide)) (lfd.more (by decide)) (lec.more (by decide)) (led.more (by decide))
  rw [qfa, qfb, qfc, qfd, qea, qeb, inB_low hf0 hf1] at WI1
  rw [qfa, qfb, qfc, qfd, qec, qed, inB_high hf0 hf1] at WI2
  clear qea qeb qec qed qfa qfb qfc qfd hf0 hf1 lea leb lec led lfa lfb lfc lfd B1
  go_upto_region 6 with (fail)
  refine wp_region_in_two 9 _ _ 64 #[.bool false, .string { data := #[] }, .string { data := #[] }, .bool false, .string { data := #[] }, .string { data := #[] }, .bool false, .string { data := #[] }, .string { data := #[] }, .bool false, .string { data := #[] }, .string { data := #[] }] 64 #[.bool false, .string { data := #[] }, .string { data := #[] }, .bool false, .string { data := #[] }, .string { data := #[] }, .bool false, .string { data := #[] }, .string { data := #[] }, .bool false, .string { data := #[] }, .string { data := #[] }] hI (by kernel_rfl) (by kernel_rfl) rfl rfl (by kernel_rfl) ?_
  simp only [List.take_succ_cons, List.take_zero, List.drop_succ_cons, List.drop_zero]
  repeat (first
    | (refine wpSeq_off (by rfl) ?_; try simp only [Act.put, List.setIfInBounds_toArray, List.set_cons_zero, List.set_cons_succ])
    | (refine wpSeq_val (v := ?_) (by rfl) (fun W hS => ?_) ?_
       rotate_left
       · (have fx := hS.facts; simp only [factsOf, cellsOf, Nat.zero_add, Nat.reduceAdd] at fx; clear hS; go_simp; first | done | with_reducible rfl)
       try simp only [Act.put, List.setIfInBounds_toArray, List.set_cons_zero, List.set_cons_succ]))
  refine wpSeq_call (v := .agg #[.bool ea.neg, .string ea.num, .string ea.den, .bool eb.neg, .string eb.num, .string eb.den, .bool ec.neg, .string ec.num, .string ec.den, .bool ed.neg, .string ed.num, .string ed.den]) (by rfl) (fun W hS => ?_) (fun W hS => (R1.out W hS.bel)) ?_
  · (clear hS; go_simp; done)
  try simp only [Act.put, List.setIfInBounds_toArray, List.set_cons_zero, List.set_cons_succ]
  repeat (first
    | (refine wpSeq_off (by rfl) ?_; try simp only [Act.put, List.setIfInBounds_toArray, List.set_cons_zero, List.set_cons_succ])
    | (refine wpSeq_val (v := ?_) (by rfl) (fun W hS => ?_) ?_
       rotate_left
       · (have fx := hS.facts; simp only [factsOf, cellsOf, Nat.zero_add, Nat.reduceAdd] at fx; clear hS; go_simp; first | done | with_reducible rfl)
       try simp only [Act.put, List.setIfInBounds_toArray, List.set_cons_zero, List.set_cons_succ]))
  refine wpSeq_call (v := .agg #[.bool fa.neg, .string fa.num, .string fa.den, .bool fb.neg, .string fb.num, .string fb.den, .bool fc.neg, .string fc.num, .string fc.den, .bool fd.neg, .string fd.num, .string fd.den]) (by rfl) (fun W hS => ?_) (fun W hS => (R2.out W hS.bel)) ?_
  · (clear hS; go_simp; done)
  try simp only [Act.put, List.setIfInBounds_toArray, List.set_cons_zero, List.set_cons_succ]
  repeat (first
    | (refine wpSeq_off (by rfl) ?_; try simp only [Act.put, List.setIfInBounds_toArray, List.set_cons_zero, List.set_cons_succ])
    | (refine wpSeq_val (v := ?_) (by rfl) (fun W hS => ?_) ?_
       rotate_left
       · (have fx := hS.facts; simp only [factsOf, cellsOf, Nat.zero_add, Nat.reduceAdd] at fx; clear hS; go_simp; first | done | with_reducible rfl)
       try simp only [Act.put, List.setIfInBounds_toArray, List.set_cons_zero, List.set_cons_succ]))
  refine wpSeq_nil ⟨rfl, rfl, fun W => ?_, fun W => ?_, fun g1 g2 W hI => ?_⟩
  · go_simp
  · go_simp
  simp only [List.setIfInBounds_toArray, List.set_cons_zero, List.set_cons_succ]
  have hne : g1 ≠ g2 := fun h => by
    have := hI.apart
    simp only [List.map_cons, List.nodup_cons, List.mem_cons, not_or] at this
    exact this.1.1 h.symm
  have hS1 := hI.take (a := [_, _])
  have fx := hS1.facts
  simp only [factsOf, cellsOf, Nat.zero_add, Nat.reduceAdd] at fx
  have hfz1 := fun i => hS1.free (k := 0) (i := i) rfl
  have hfz2 := fun i => hS1.free (k := 1) (i := i) rfl
  have HX := Lib.hid (In.all12 (a := []) (In.all12 (a := [_]) hI (.bool ea.neg) (.string ea.num) (.string ea.den) (.bool eb.neg) (.string eb.num) (.string eb.den) (.bool ec.neg) (.string ec.num) (.string ec.den) (.bool ed.neg) (.string ed.num) (.string ed.den)) (.bool fa.neg) (.string fa.num) (.string fa.den) (.bool fb.neg) (.string fb.num) (.string fb.den) (.bool fc.neg) (.string fc.num) (.string fc.den) (.bool fd.neg) (.string fd.num) (.string fd.den))
  clear hS1 hI
  go_upto_region 7 with (fail)
  clear hI
  have hI : In w (_ :: _ :: _ :: _) _ := HX.out
  clear HX fx hfz1 hfz2 hne
  generalize World.setCell _ _ _ = W3 at hI ⊢
  have TW := Lib.hid (show ∀ t, -9223372036854775808 ≤ t ∧ t ≤ 9223372036854775807 → Hid (∀ W, Below w.heap.size w W → Calls Tryd.prog 50 #[.agg #[.bool p.neg, .string p.num, .string p.den, .bool q.neg, .string q.num, .string q.den], .agg #[.bool x.neg, .string x.num, .string x.den], .int .i64 t, .agg #[.bool y.a.neg, .string y.a.num, .string y.a.den, .bool y.b.neg, .string y.b.num, .string y.b.den, .bool y.c.neg, .string y.c.num, .string y.c.den, .bool y.d.neg, .string y.d.num, .string y.d.den]] W fun r w' => r = .returned (.bool (tchB p.q q.q (farV x.q t) y)) ∧ Below W.heap.size W w') from fun t ht => touchR w HT.out p q x y lp lq (lx.more (show 1 ≤ 8 by decide)) ⟨ly.1.more (by decide), ly.2.1.more (by decide), ly.2.2.1.more (by decide), ly.2.2.2.more (by decide)⟩ t ht)
  have HWN := Lib.hid (fun W (hW : Below w.heap.size w W) => when_any W (tabs w HT.out hW) p q x y lp lq (lx.more (show 1 ≤ 8 by decide)) ⟨ly.1.more (by decide), ly.2.1.more (by decide), ly.2.2.1.more (by decide), ly.2.2.2.more (by decide)⟩ na (by omega))
  clear R1 R2
  refine wp_region_in_plain_all hI ?_
  repeat (first
    | (refine wpSeq_off (by rfl) ?_; try simp only [Act.put, List.setIfInBounds_toArray, List.set_cons_zero, List.set_cons_succ])
    | (refine wpSeq_val (v := ?_) (by rfl) (fun W hS => ?_) ?_
       rotate_left
       · (have fx := hS.facts; simp only [factsOf, cellsOf, Nat.zero_add, Nat.reduceAdd] at fx; clear hS; go_simp; first | done | with_reducible rfl)
       try simp only [Act.put, List.setIfInBounds_toArray, List.set_cons_zero, List.set_cons_succ]))
  refine wpSeq_call (v := .bool true) (by rfl) (fun W hS => ?_) (fun W hS => (WI1.out W hS.bel)) ?_
  · (clear hS; go_simp; done)
  try simp only [Act.put, List.setIfInBounds_toArray, List.set_cons_zero, List.set_cons_succ]
  repeat (first
    | (refine wpSeq_off (by rfl) ?_; try simp only [Act.put, List.setIfInBounds_toArray, List.set_cons_zero, List.set_cons_succ])
    | (refine wpSeq_val (v := ?_) (by rfl) (fun W hS => ?_) ?_
       rotate_left
       · (have fx := hS.facts; simp only [factsOf, cellsOf, Nat.zero_add, Nat.reduceAdd] at fx; clear hS; go_simp; first | done | with_reducible rfl)
       try simp only [Act.put, List.setIfInBounds_toArray, List.set_cons_zero, List.set_cons_succ]))
  refine wpSeq_call (v := .bool true) (by rfl) (fun W hS => ?_) (fun W hS => (WI2.out W hS.bel)) ?_
  · (clear hS; go_simp; done)
  try simp only [Act.put, List.setIfInBounds_toArray, List.set_cons_zero, List.set_cons_succ]
  repeat (first
    | (refine wpSeq_off (by rfl) ?_; try simp only [Act.put, List.setIfInBounds_toArray, List.set_cons_zero, List.set_cons_succ])
    | (refine wpSeq_val (v := ?_) (by rfl) (fun W hS => ?_) ?_
       rotate_left
       · (have fx := hS.facts; simp only [factsOf, cellsOf, Nat.zero_add, Nat.reduceAdd] at fx; clear hS; go_simp; first | done | with_reducible rfl)
       try simp only [Act.put, List.setIfInBounds_toArray, List.set_cons_zero, List.set_cons_succ]))
  refine wpSeq_nil (fun W hS => ?_)
  clear hI WI1 WI2
  have hI := hS
  clear hS
  have fx := hI.facts
  simp only [factsOf, cellsOf, Nat.zero_add, Nat.reduceAdd] at fx
  go_wp2_with fail
  refine (HWN.out _ hI.bel).mono ?_
  rintro r wn ⟨z, rfl, hz, hb⟩
  replace hI := hI.call hb
  clear hb fx HWN
  have hz' : (z < 0 ∧ tchB p.q q.q (farV x.q na) y = false) ∨ (¬ z < 0 ∧ z ≤ na ∧ tchB p.q q.q (farV x.q z) y = true ∧ (z = 0 ∨ (¬ z = 0 ∧ tchB p.q q.q (farV x.q (z - 1)) y = false))) := by
    rcases hz with ⟨h1, rfl⟩ | ⟨h0, h1, h2, h3⟩
    · refine .inl ⟨by decide, ?_⟩
      rcases h1 with h1 | h1
      · omega
      · exact h1
    · refine .inr ⟨by omega, h1, h2, ?_⟩
      by_cases hz0 : z = 0
      · exact .inl hz0
      · exact .inr ⟨hz0, h3 (z - 1) (by omega) (by omega)⟩
  clear hz
  have fx := hI.facts
  simp only [factsOf, cellsOf, Nat.zero_add, Nat.reduceAdd] at fx
  rcases hz' with ⟨h1, h2⟩ | ⟨h1, h2, h3, h4⟩
  · have T0 := TW.out na (by omega)
    rw [h2] at T0
    clear h2 TW
    go_wp2_with fail
    refine (T0.out _ hI.bel).mono ?_
    rintro e wn ⟨rfl, hb⟩
    replace hI := hI.call hb
    clear hb
    clear fx
    go_wp2
    go_ret
    exact ⟨rfl, hI.bel⟩
  · have T0 := TW.out z (by omega)
    rw [h3] at T0
    have hz63 : -9223372036854775808 ≤ z ∧ z ≤ 9223372036854775807 := by omega
    clear fx
    go_upto_region 12 with (fail)
    rcases h4 with rfl | ⟨h4, h5⟩
    · clear h3 TW
      refine wp_region_in_plain_all hI ?_
      repeat (first
        | (refine wpSeq_off (by rfl) ?_; try simp only [Act.put, List.setIfInBounds_toArray, List.set_cons_zero, List.set_cons_succ])
        | (refine wpSeq_val (v := ?_) (by rfl) (fun W hS => ?_) ?_
           rotate_left
           · (have fx := hS.facts; simp only [factsOf, cellsOf, Nat.zero_add, Nat.reduceAdd] at fx; clear hS; go_simp; first | done | with_reducible rfl)
           try simp only [Act.put, List.setIfInBounds_toArray, List.set_cons_zero, List.set_cons_succ]))
      refine wpSeq_call (v := .bool true) (by rfl) (fun W hS => ?_) (fun W hS => (T0.out W hS.bel)) ?_
      · (clear hS; go_simp; done)
      try simp only [Act.put, List.setIfInBounds_toArray, List.set_cons_zero, List.set_cons_succ]
      repeat (first
        | (refine wpSeq_off (by rfl) ?_; try simp only [Act.put, List.setIfInBounds_toArray, List.set_cons_zero, List.set_cons_succ])
        | (refine wpSeq_val (v := ?_) (by rfl) (fun W hS => ?_) ?_
           rotate_left
           · (have fx := hS.facts; simp only [factsOf, cellsOf, Nat.zero_add, Nat.reduceAdd] at fx; clear hS; go_simp; first | done | with_reducible rfl)
           try simp only [Act.put, List.setIfInBounds_toArray, List.set_cons_zero, List.set_cons_succ]))
      refine wpSeq_nil (fun W hS => ?_)
      go_wp2
      go_ret
      exact ⟨rfl, hS.bel⟩
    · have T1 := TW.out (z - 1) (by omega)
      rw [h5] at T1
      have hz1 : (z == 0) = false := by simpa using h4
      have hwz : IntKind.i64.wrap (z - 1) = z - 1 := by rw [IntKind.wrap_i64]; omega
      clear h3 h5 TW
      refine wp_region_in_plain_all hI ?_
      repeat (first
        | (refine wpSeq_off (by rfl) ?_; try simp only [Act.put, List.setIfInBounds_toArray, List.set_cons_zero, List.set_cons_succ])
        | (refine wpSeq_val (v := ?_) (by rfl) (fun W hS => ?_) ?_
           rotate_left
           · (have fx := hS.facts; simp only [factsOf, cellsOf, Nat.zero_add, Nat.reduceAdd] at fx; clear hS; go_simp; first | done | with_reducible rfl)
           try simp only [Act.put, List.setIfInBounds_toArray, List.set_cons_zero, List.set_cons_succ]))
      refine wpSeq_call (v := .bool true) (by rfl) (fun W hS => ?_) (fun W hS => (T0.out W hS.bel)) ?_
      · (clear hS; go_simp; done)
      try simp only [Act.put, List.setIfInBounds_toArray, List.set_cons_zero, List.set_cons_succ]
      repeat (first
        | (refine wpSeq_off (by rfl) ?_; try simp only [Act.put, List.setIfInBounds_toArray, List.set_cons_zero, List.set_cons_succ])
        | (refine wpSeq_val (v := ?_) (by rfl) (fun W hS => ?_) ?_
           rotate_left
           · (have fx := hS.facts; simp only [factsOf, cellsOf, Nat.zero_add, Nat.reduceAdd] at fx; clear hS; go_simp; first | done | with_reducible rfl)
           try simp only [Act.put, List.setIfInBounds_toArray, List.set_cons_zero, List.set_cons_succ]))
      refine wpSeq_call (v := .bool false) (by rfl) (fun W hS => ?_) (fun W hS => (T1.out W hS.bel)) ?_
      · (clear hS; go_simp; done)
      try simp only [Act.put, List.setIfInBounds_toArray, List.set_cons_zero, List.set_cons_succ]
      repeat (first
        | (refine wpSeq_off (by rfl) ?_; try simp only [Act.put, List.setIfInBounds_toArray, List.set_cons_zero, List.set_cons_succ])
        | (refine wpSeq_val (v := ?_) (by rfl) (fun W hS => ?_) ?_
           rotate_left
           · (have fx := hS.facts; simp only [factsOf, cellsOf, Nat.zero_add, Nat.reduceAdd] at fx; clear hS; go_simp; first | done | with_reducible rfl)
           try simp only [Act.put, List.setIfInBounds_toArray, List.set_cons_zero, List.set_cons_succ]))
      refine wpSeq_nil (fun W hS => ?_)
      go_wp2
      go_ret
      exact ⟨rfl, hS.bel⟩
end Go.Proofs.YthmgcbpmfipfiaaDoor.zoneLater
