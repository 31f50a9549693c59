/- StopMirror: the walk. Conditions: those typed. -/
import Derived.Test.YtnnbnecpcppkdaaDoorBrakes
import Derived.Test.YtnnbnecpcppkdaaDoorEqQ
import Derived.Test.YtnnbnecpcppkdaaDoorArgQ
namespace Go.Proofs.YtnnbnecpcppkdaaDoor.stopMirror
open Go.RowKit Go.Gy
set_option linter.unusedVariables false
theorem wf_i64 {n : Int} (h : wfI .i64 n) : -9223372036854775808 ≤ n ∧ n ≤ 9223372036854775807 := by
  simpa [wfI, Lit.wf, IntKind.min, IntKind.max, IntKind.signed, IntKind.bits] using h
set_option maxRecDepth 100000 in
set_option maxHeartbeats 8000000 in
theorem walk (v0 : Value) (x : Int) (w : World) {b0 : Nat} (f0 : IntsArg w v0 b0) (wa : wfI .i64 x) (hT : TabW w) :
    Calls Tryd.prog 3 #[v0, .int .i64 x] w fun e w' => e = .returned (.bool true) ∧ Below w.heap.size w w' := by
  obtain ⟨r, hl, hi, _, hrb⟩ := f0
  have HT := Lib.hid hT
  have BR := brakesR w hT
  have HA := Lib.hid (fun W (hW : Below w.heap.size w W) => armMake W v0 r ((hl.below hW).more hW.size) (by unfold reachBytes at hrb; omega))
  obtain ⟨v, qv, cv, lv, MR⟩ := ratMR w x (wf_i64 wa)
  have hvb := ratM_bound x
  rw [← qv] at hvb
  clear hl hi hrb wa qv
  have hI := In.start w
  clear hT
  go_enter Tryd.func3, Tryd.ntmps3
  go_wp2_with fail
  refine (BR.out _ hI.bel).mono ?_
  rintro e wn ⟨rfl, hb⟩
  replace hI := hI.call hb
  clear hb
  go_wp2_with fail
  refine (HA.out _ hI.bel).mono ?_
  rintro e wn ⟨⟨nm, ⟨px, py⟩, hf, t, va, L⟩, he, hG, ⟨hsl, hshp⟩, hb⟩
  have he : e = .returned (.agg #[.string nm, .bool px.neg, .string px.num, .string px.den, .bool py.neg, .string py.num, .string py.den, .bool hf, .bool t.neg, .string t.num, .string t.den, va]) := he
  subst he
  replace hI := hI.call hb
  clear hb HA
  obtain ⟨A, N, C, hva, hNL, hNC, _, hrd⟩ := hsl
  obtain rfl : va = .slice A N C := hva
  have hN1 : 1 ≤ N := by
    have h1 := hG.len.1
    have h2 : L.length = N := (Ar.ks_len ⟨nm, ⟨px, py⟩, hf, t, .slice A N C, L⟩).symm.trans hNL
    have h1 : 1 ≤ L.length := h1
    omega
  obtain ⟨⟨⟨klen, klow, khigh, kspeed, kbrake, kshape⟩, pts⟩, h0⟩ : ∃ x, L[0]? = some x := ⟨_, List.getElem?_eq_getElem (by
    have h1 : 1 ≤ L.length := hG.len.1
    omega)⟩
  have hgk : GenLk ⟨klen, klow, khigh, kspeed, kbrake, kshape⟩ pts := hG.lk _ (List.mem_of_getElem? h0)
  obtain ⟨A5, n5, c5, hk5, _⟩ := hshp _ (List.mem_of_getElem? h0)
  obtain rfl : kshape = .slice A5 n5 c5 := hk5
  obtain ⟨b, o, rfl, hbB, hlc⟩ := Rd.lnk hrd (i := 0) (k := ⟨klen, klow, khigh, kspeed, kbrake, .slice A5 n5 c5⟩) (by
    show (L.map (·.1))[0]? = _
    rw [List.getElem?_map, h0]; rfl)
  rw [Nat.zero_mul, Nat.add_zero] at hlc
  have lb : kbrake.le 1 := by
    obtain ⟨_, _, _, _, _, _, _, _, _, _, _, _, _, ⟨_, _, _, _, h⟩, _⟩ := hgk
    exact h
  have hb0 : 0 < kbrake.q ∧ 1 ≤ 100 * kbrake.q ∧ kbrake.q ≤ 1 := hgk.brake
  obtain ⟨n, e, z, hTI, _, hz0, hzl, TK, WY⟩ := wayR w HT.out ⟨klen, klow, khigh, kspeed, kbrake, .slice A5 n5 c5⟩ v lv lb
  obtain ⟨vn, qvn, _, lvn, NG⟩ := negR w HT.out v lv
  obtain ⟨n', e', z', hTI', _, hz0', hzl', TK', WY'⟩ := wayR w HT.out ⟨klen, klow, khigh, kspeed, kbrake, .slice A5 n5 c5⟩ vn lvn lb
  have hTI : TicksIs kbrake.q v.q n e := hTI
  have hTI' : TicksIs kbrake.q vn.q n' e' := hTI'
  rw [qvn] at hTI'
  obtain ⟨rfl, rfl⟩ := ticks_uniq hTI' (ticks_neg hTI)
  obtain rfl := ticks_fine hTI hb0.1 (by grind)
  obtain ⟨hzq, hzc⟩ : z.q = wayQ kbrake.q v.q n' ∧ z.can := hz0 rfl
  obtain ⟨hzq', _⟩ : z'.q = wayQ kbrake.q vn.q n' ∧ z'.can := hz0' rfl
  rw [qvn, way_neg hTI] at hzq'
  obtain ⟨zz, qzz, czz, _, NZ⟩ := negR w HT.out z' hzl'
  obtain rfl : zz = z := czz.eq hzc (by rw [qzz, hzq', hzq]; grind)
  obtain ⟨zs, qs, cs, _, SL⟩ := slowerR w HT.out kbrake v lv lb
  obtain ⟨zs', qs', _, ls', SL'⟩ := slowerR w HT.out kbrake vn lvn lb
  obtain ⟨zt, qt, ct, _, NS⟩ := negR w HT.out zs' ls'
  obtain rfl : zt = zs := ct.eq cs (by rw [qt, qs', qs, qvn, slow_neg]; grind)
  have TK : Hid (∀ W, Below w.heap.size w W → Calls Tryd.prog 17 #[.agg #[.bool klen.neg, .string klen.num, .string klen.den, .bool klow.neg, .string klow.num, .string klow.den, .bool khigh.neg, .string khigh.num, .string khigh.den, .bool kspeed.neg, .string kspeed.num, .string kspeed.den, .bool kbrake.neg, .string kbrake.num, .string kbrake.den, .slice A5 n5 c5], .agg #[.bool v.neg, .string v.num, .string v.den]] W fun r w' => r = .returned (.tuple #[.int .i64 n', .int .i64 0]) ∧ Below W.heap.size W w') := TK
  have TK' : Hid (∀ W, Below w.heap.size w W → Calls Tryd.prog 17 #[.agg #[.bool klen.neg, .string klen.num, .string klen.den, .bool klow.neg, .string klow.num, .string klow.den, .bool khigh.neg, .string khigh.num, .string khigh.den, .bool kspeed.neg, .string kspeed.num, .string kspeed.den, .bool kbrake.neg, .string kbrake.num, .string kbrake.den, .slice A5 n5 c5], .agg #[.bool vn.neg, .string vn.num, .string vn.den]] W fun r w' => r = .returned (.tuple #[.int .i64 n', .int .i64 0]) ∧ Below W.heap.size W w') := TK'
  have WY : Hid (∀ W, Below w.heap.size w W → Calls Tryd.prog 19 #[.agg #[.bool klen.neg, .string klen.num, .string klen.den, .bool klow.neg, .string klow.num, .string klow.den, .bool khigh.neg, .string khigh.num, .string khigh.den, .bool kspeed.neg, .string kspeed.num, .string kspeed.den, .bool kbrake.neg, .string kbrake.num, .string kbrake.den, .slice A5 n5 c5], .agg #[.bool v.neg, .string v.num, .string v.den]] W fun r w' => r = .returned (.tuple #[.agg #[.bool zz.neg, .string zz.num, .string zz.den], .int .i64 0]) ∧ Below W.heap.size W w') := WY
  have WY' : Hid (∀ W, Below w.heap.size w W → Calls Tryd.prog 19 #[.agg #[.bool klen.neg, .string klen.num, .string klen.den, .bool klow.neg, .string klow.num, .string klow.den, .bool khigh.neg, .string khigh.num, .string khigh.den, .bool kspeed.neg, .string kspeed.num, .string kspeed.den, .bool kbrake.neg, .string kbrake.num, .string kbrake.den, .slice A5 n5 c5], .agg #[.bool vn.neg, .string vn.num, .string vn.den]] W fun r w' => r = .returned (.tuple #[.agg #[.bool z'.neg, .string z'.num, .string z'.den], .int .i64 0]) ∧ Below W.heap.size W w') := WY'
  have ge := guard_quot
  have hn1 := fun W => eql_quot W zz
  have hn2 := fun W => eql_quot W zt
  clear qt qs' qs qvn qzz hzq hzq' hz0 hz0' hTI hTI' hvb hzc czz ct cs hzl hzl' lvn lv ls' cv hb0 lb hgk h0 hrd hshp hG hNL
  obtain ⟨e0, e1, e2, e3, e4, e5, e6, e7, e8, e9, e10, e11, e12, e13, e14, e15⟩ := hlc
  have hbn : b < wn.heap.size := hbB
  have hfd := run_links wn nm px py t hf (.slice (some ⟨b, o, none⟩) N C)
  have hN2 : (0 : Int) < (N : Int) := by omega
  replace hI := hI.alloc 28 #[.bool klen.neg, .string klen.num, .string klen.den, .bool klow.neg, .string klow.num, .string klow.den, .bool khigh.neg, .string khigh.num, .string khigh.den, .bool kspeed.neg, .string kspeed.num, .string kspeed.den, .bool kbrake.neg, .string kbrake.num, .string kbrake.den, .slice A5 n5 c5]
  obtain ⟨g5, hg5⟩ : ∃ g, g = wn.heap.size := ⟨_, rfl⟩
  go_upto_region 4 with (fail)
  clear e0 e1 e2 e3 e4 e5 e6 e7 e8 e9 e10 e11 e12 e13 e14 e15 hbn hbB
  rw [← hg5] at hI ⊢
  generalize World.alloc _ _ = W2 at hI ⊢
  clear hg5
  go_wp2_with fail
  refine (MR.out _).mono ?_
  rintro e wn2 ⟨rfl, hb⟩
  replace hI := hI.call hb
  clear hb MR
  replace hI := hI.alloc 25 #[.bool v.neg, .string v.num, .string v.den]
  obtain ⟨g6, hg6⟩ : ∃ g, g = wn2.heap.size := ⟨_, rfl⟩
  go_upto_region 5 with (fail)
  rw [← hg6] at hI ⊢
  generalize World.alloc _ _ = W3 at hI ⊢
  clear hg6
  obtain ⟨ls, hls⟩ : ∃ ls : List (Nat × TypeId × Array Value), ls = [(g6, 25, #[.bool v.neg, .string v.num, .string v.den]), (g5, 28, #[.bool klen.neg, .string klen.num, .string klen.den, .bool klow.neg, .string klow.num, .string klow.den, .bool khigh.neg, .string khigh.num, .string khigh.den, .bool kspeed.neg, .string kspeed.num, .string kspeed.den, .bool kbrake.neg, .string kbrake.num, .string kbrake.den, .slice A5 n5 c5])] := ⟨_, rfl⟩
  rw [← hls] at hI
  have Hls := Lib.hid hls
  clear hls
  go_cut [7, 8] (fun p c wx => p = .int .i64 n' ∧ c = .int .i64 0 ∧ In w ls wx)
  case first =>
    as_aux_lemma =>
      have HI := hI
      rw [Hls.out] at hI
      have fx := hI.facts
      simp only [factsOf, cellsOf, Nat.zero_add, Nat.reduceAdd] at fx
      go_wp2_with fail
      refine (TK.out _ hI.bel).mono ?_
      rintro e wn ⟨rfl, hb⟩
      replace HI := HI.call hb
      clear hb fx hI
      go_wp2_with fail
      go_meet
      exact ⟨rfl, rfl, HI⟩
  case rest =>
    clear hI
    obtain ⟨rfl, rfl, hI⟩ := hcut
    go_upto_region 6 with (fail)
    go_cut [9, 10] (fun p c wx => p = .int .i64 n' ∧ c = .int .i64 0 ∧ In w ls wx)
    case first =>
      as_aux_lemma =>
        rw [Hls.out] at hI
        refine wp_region_in hI (by kernel_rfl) (by kernel_rfl) ?_
        repeat (first
          | (refine wpSeq_off (by rfl) ?_; try simp only [Act.put, List.setIfInBounds_toArray, List.set_cons_zero, List.set_cons_succ])
          | (refine wpSeq_val (v := ?_) (by rfl) (fun W hS => ?_) ?_
             rotate_left
             · (have fx := hS.facts; simp only [factsOf, cellsOf, Nat.zero_add, Nat.reduceAdd] at fx; clear hS; go_simp; first | done | with_reducible rfl)
             try simp only [Act.put, List.setIfInBounds_toArray, List.set_cons_zero, List.set_cons_succ]))
        refine wpSeq_call (v := .agg #[.bool vn.neg, .string vn.num, .string vn.den]) (by rfl) (fun W hS => ?_) (fun W hS => (NG.out W hS.bel)) ?_
        · (clear hS; go_simp; done)
        try simp only [Act.put, List.setIfInBounds_toArray, List.set_cons_zero, List.set_cons_succ]
        repeat (first
          | (refine wpSeq_off (by rfl) ?_; try simp only [Act.put, List.setIfInBounds_toArray, List.set_cons_zero, List.set_cons_succ])
          | (refine wpSeq_val (v := ?_) (by rfl) (fun W hS => ?_) ?_
             rotate_left
             · (have fx := hS.facts; simp only [factsOf, cellsOf, Nat.zero_add, Nat.reduceAdd] at fx; clear hS; go_simp; first | done | with_reducible rfl)
             try simp only [Act.put, List.setIfInBounds_toArray, List.set_cons_zero, List.set_cons_succ]))
        refine wpSeq_call (v := .tuple #[.int .i64 n', .int .i64 0]) (by rfl) (fun W hS => ?_) (fun W hS => (TK'.out W hS.bel)) ?_
        · (clear hS; go_simp; done)
        try simp only [Act.put, List.setIfInBounds_toArray, List.set_cons_zero, List.set_cons_succ]
        repeat (first
          | (refine wpSeq_off (by rfl) ?_; try simp only [Act.put, List.setIfInBounds_toArray, List.set_cons_zero, List.set_cons_succ])
          | (refine wpSeq_val (v := ?_) (by rfl) (fun W hS => ?_) ?_
             rotate_left
             · (have fx := hS.facts; simp only [factsOf, cellsOf, Nat.zero_add, Nat.reduceAdd] at fx; clear hS; go_simp; first | done | with_reducible rfl)
             try simp only [Act.put, List.setIfInBounds_toArray, List.set_cons_zero, List.set_cons_succ]))
        refine wpSeq_nil (fun W hS => ?_)
        clear hI
        have HX := Lib.hid hS
        clear hS
        go_wp2_with fail
        go_meet
        exact ⟨rfl, rfl, by rw [Hls.out]; exact HX.out⟩
    case rest =>
      clear hI
      obtain ⟨rfl, rfl, hI⟩ := hcut
      go_upto_region 7 with (fail)
      go_cut [11, 12] (fun p c wx => ∃ g, p = .pointer (some ⟨g, 0, none⟩) ∧ c = .int .i64 0 ∧ In w ((g, 25, #[.bool zz.neg, .string zz.num, .string zz.den]) :: ls) wx)
      case first =>
        as_aux_lemma =>
          have HI := hI
          rw [Hls.out] at hI
          have fx := hI.facts
          simp only [factsOf, cellsOf, Nat.zero_add, Nat.reduceAdd] at fx
          go_wp2_with fail
          refine (WY.out _ hI.bel).mono ?_
          rintro e wn ⟨rfl, hb⟩
          replace HI := HI.call hb
          replace HI := HI.alloc 25 #[.bool zz.neg, .string zz.num, .string zz.den]
          clear hb fx hI
          go_wp2_with fail
          go_meet
          exact ⟨_, rfl, rfl, HI⟩
      case rest =>
        clear hI
        obtain ⟨g11, rfl, rfl, hI⟩ := hcut
        go_upto_region 8 with (fail)
        go_cut [13, 14] (fun p c wx => ∃ g, p = .pointer (some ⟨g, 0, none⟩) ∧ c = .int .i64 0 ∧ In w ((g, 25, #[.bool z'.neg, .string z'.num, .string z'.den]) :: (g11, 25, #[.bool zz.neg, .string zz.num, .string zz.den]) :: ls) wx)
        case first =>
          as_aux_lemma =>
            rw [Hls.out] at hI
            refine wp_region_in_late 7 [6] _ 25 #[.bool false, .string { data := #[] }, .string { data := #[] }] hI (by kernel_rfl) (by kernel_rfl) rfl ?_
            simp only [List.take_succ_cons, List.take_zero, List.drop_succ_cons, List.drop_zero]
            repeat (first
              | (refine wpSeqL_off (by rfl) ?_; try simp only [Act.put, List.setIfInBounds_toArray, List.set_cons_zero, List.set_cons_succ])
              | (refine wpSeqL_pure (v := ?_) (by rfl) (fun W => ?_) ?_
                 rotate_left
                 · (go_simp; first | done | with_reducible rfl)
                 try simp only [Act.put, List.setIfInBounds_toArray, List.set_cons_zero, List.set_cons_succ])
              | (refine wpSeqL_val (v := ?_) (by rfl) (by rfl) (fun W hS => ?_) ?_
                 rotate_left
                 · (have fx := hS.facts; simp only [factsOf, cellsOf, Nat.zero_add, Nat.reduceAdd] at fx; clear hS; go_simp; first | done | with_reducible rfl)
                 try simp only [Act.put, List.setIfInBounds_toArray, List.set_cons_zero, List.set_cons_succ]))
            refine wpSeqL_call (v := .agg #[.bool vn.neg, .string vn.num, .string vn.den]) (by rfl) (by rfl) (fun W hS => ?_) (fun W hS => (NG.out W hS.bel)) ?_
            · (clear hS; go_simp; done)
            try simp only [Act.put, List.setIfInBounds_toArray, List.set_cons_zero, List.set_cons_succ]
            repeat (first
              | (refine wpSeqL_off (by rfl) ?_; try simp only [Act.put, List.setIfInBounds_toArray, List.set_cons_zero, List.set_cons_succ])
              | (refine wpSeqL_pure (v := ?_) (by rfl) (fun W => ?_) ?_
                 rotate_left
                 · (go_simp; first | done | with_reducible rfl)
                 try simp only [Act.put, List.setIfInBounds_toArray, List.set_cons_zero, List.set_cons_succ])
              | (refine wpSeqL_val (v := ?_) (by rfl) (by rfl) (fun W hS => ?_) ?_
                 rotate_left
                 · (have fx := hS.facts; simp only [factsOf, cellsOf, Nat.zero_add, Nat.reduceAdd] at fx; clear hS; go_simp; first | done | with_reducible rfl)
                 try simp only [Act.put, List.setIfInBounds_toArray, List.set_cons_zero, List.set_cons_succ]))
            refine wpSeqL_call (v := .tuple #[.agg #[.bool z'.neg, .string z'.num, .string z'.den], .int .i64 0]) (by rfl) (by rfl) (fun W hS => ?_) (fun W hS => (WY'.out W hS.bel)) ?_
            · (clear hS; go_simp; done)
            try simp only [Act.put, List.setIfInBounds_toArray, List.set_cons_zero, List.set_cons_succ]
            repeat (first
              | (refine wpSeqL_off (by rfl) ?_; try simp only [Act.put, List.setIfInBounds_toArray, List.set_cons_zero, List.set_cons_succ])
              | (refine wpSeqL_pure (v := ?_) (by rfl) (fun W => ?_) ?_
                 rotate_left
                 · (go_simp; first | done | with_reducible rfl)
                 try simp only [Act.put, List.setIfInBounds_toArray, List.set_cons_zero, List.set_cons_succ])
              | (refine wpSeqL_val (v := ?_) (by rfl) (by rfl) (fun W hS => ?_) ?_
                 rotate_left
                 · (have fx := hS.facts; simp only [factsOf, cellsOf, Nat.zero_add, Nat.reduceAdd] at fx; clear hS; go_simp; first | done | with_reducible rfl)
                 try simp only [Act.put, List.setIfInBounds_toArray, List.set_cons_zero, List.set_cons_succ]))
            refine wpSeqL_nil ⟨rfl, fun W hS => ?_, fun g W hI => ?_⟩
            · go_simp
            simp only [List.setIfInBounds_toArray, List.set_cons_zero, List.set_cons_succ]
            have hS1 := hI.take (a := [_])
            have fx := hS1.facts
            simp only [factsOf, cellsOf, Nat.zero_add, Nat.reduceAdd] at fx
            have hz := fun i => hS1.free (k := 0) (i := i) rfl
            have HX := Lib.hid (hI.all3 (a := []) (.bool z'.neg) (.string z'.num) (.string z'.den))
            clear hS1 hI
            go_wp2_with fail
            refine NoPanic.normal ?_
            go_wp2_with fail
            go_meet
            exact ⟨g, rfl, rfl, by rw [Hls.out]; exact HX.out⟩
        case rest =>
          clear hI
          obtain ⟨g13, rfl, rfl, hI⟩ := hcut
          rw [Hls.out] at hI
          go_upto_region 9 with (fail)
          refine wp_region_in hI (by kernel_rfl) (by kernel_rfl) ?_
          repeat (first
            | (refine wpSeq_off (by rfl) ?_; try simp only [Act.put, List.setIfInBounds_toArray, List.set_cons_zero, List.set_cons_succ])
            | (refine wpSeq_val (v := ?_) (by rfl) (fun W hS => ?_) ?_
               rotate_left
               · (have fx := hS.facts; simp only [factsOf, cellsOf, Nat.zero_add, Nat.reduceAdd] at fx; clear hS; go_simp; first | done | with_reducible rfl)
               try simp only [Act.put, List.setIfInBounds_toArray, List.set_cons_zero, List.set_cons_succ]))
          refine wpSeq_call (v := .agg #[.bool zz.neg, .string zz.num, .string zz.den]) (by rfl) (fun W hS => ?_) (fun W hS => (NZ.out W hS.bel)) ?_
          · (clear hS; go_simp; done)
          try simp only [Act.put, List.setIfInBounds_toArray, List.set_cons_zero, List.set_cons_succ]
          repeat (first
            | (refine wpSeq_off (by rfl) ?_; try simp only [Act.put, List.setIfInBounds_toArray, List.set_cons_zero, List.set_cons_succ])
            | (refine wpSeq_val (v := ?_) (by rfl) (fun W hS => ?_) ?_
               rotate_left
               · (have fx := hS.facts; simp only [factsOf, cellsOf, Nat.zero_add, Nat.reduceAdd] at fx; clear hS; go_simp; first | done | with_reducible rfl)
               try simp only [Act.put, List.setIfInBounds_toArray, List.set_cons_zero, List.set_cons_succ]))
          refine wpSeq_call (v := .agg #[.bool zt.neg, .string zt.num, .string zt.den]) (by rfl) (fun W hS => ?_) (fun W hS => (SL.out W hS.bel)) ?_
          · (clear hS; go_simp; done)
          try simp only [Act.put, List.setIfInBounds_toArray, List.set_cons_zero, List.set_cons_succ]
          repeat (first
            | (refine wpSeq_off (by rfl) ?_; try simp only [Act.put, List.setIfInBounds_toArray, List.set_cons_zero, List.set_cons_succ])
            | (refine wpSeq_val (v := ?_) (by rfl) (fun W hS => ?_) ?_
               rotate_left
               · (have fx := hS.facts; simp only [factsOf, cellsOf, Nat.zero_add, Nat.reduceAdd] at fx; clear hS; go_simp; first | done | with_reducible rfl)
               try simp only [Act.put, List.setIfInBounds_toArray, List.set_cons_zero, List.set_cons_succ]))
          refine wpSeq_call (v := .agg #[.bool vn.neg, .string vn.num, .string vn.den]) (by rfl) (fun W hS => ?_) (fun W hS => (NG.out W hS.bel)) ?_
          · (clear hS; go_simp; done)
          try simp only [Act.put, List.setIfInBounds_toArray, List.set_cons_zero, List.set_cons_succ]
          repeat (first
            | (refine wpSeq_off (by rfl) ?_; try simp only [Act.put, List.setIfInBounds_toArray, List.set_cons_zero, List.set_cons_succ])
            | (refine wpSeq_val (v := ?_) (by rfl) (fun W hS => ?_) ?_
               rotate_left
               · (have fx := hS.facts; simp only [factsOf, cellsOf, Nat.zero_add, Nat.reduceAdd] at fx; clear hS; go_simp; first | done | with_reducible rfl)
               try simp only [Act.put, List.setIfInBounds_toArray, List.set_cons_zero, List.set_cons_succ]))
          refine wpSeq_call (v := .agg #[.bool zs'.neg, .string zs'.num, .string zs'.den]) (by rfl) (fun W hS => ?_) (fun W hS => (SL'.out W hS.bel)) ?_
          · (clear hS; go_simp; done)
          try simp only [Act.put, List.setIfInBounds_toArray, List.set_cons_zero, List.set_cons_succ]
          repeat (first
            | (refine wpSeq_off (by rfl) ?_; try simp only [Act.put, List.setIfInBounds_toArray, List.set_cons_zero, List.set_cons_succ])
            | (refine wpSeq_val (v := ?_) (by rfl) (fun W hS => ?_) ?_
               rotate_left
               · (have fx := hS.facts; simp only [factsOf, cellsOf, Nat.zero_add, Nat.reduceAdd] at fx; clear hS; go_simp; first | done | with_reducible rfl)
               try simp only [Act.put, List.setIfInBounds_toArray, List.set_cons_zero, List.set_cons_succ]))
          refine wpSeq_call (v := .agg #[.bool zt.neg, .string zt.num, .string zt.den]) (by rfl) (fun W hS => ?_) (fun W hS => (NS.out W hS.bel)) ?_
          · (clear hS; go_simp; done)
          try simp only [Act.put, List.setIfInBounds_toArray, List.set_cons_zero, List.set_cons_succ]
          repeat (first
            | (refine wpSeq_off (by rfl) ?_; try simp only [Act.put, List.setIfInBounds_toArray, List.set_cons_zero, List.set_cons_succ])
            | (refine wpSeq_val (v := ?_) (by rfl) (fun W hS => ?_) ?_
               rotate_left
               · (have fx := hS.facts; simp only [factsOf, cellsOf, Nat.zero_add, Nat.reduceAdd] at fx; clear hS; go_simp; first | done | with_reducible rfl)
               try simp only [Act.put, List.setIfInBounds_toArray, List.set_cons_zero, List.set_cons_succ]))
          refine wpSeq_nil (fun W hS => ?_)
          clear hI
          go_wp2
          go_ret
          exact ⟨rfl, hS.bel⟩
end Go.Proofs.YtnnbnecpcppkdaaDoor.stopMirror
