/- gantref5.Path, gantref5.Good. Conditions: those typed. -/
import Derived.Test.YtnnbnecpcppkdaaDoorPathPlain
import Derived.Test.YtnnbnecpcppkdaaDoorKeep
import Derived.Test.YtnnbnecpcppkdaaDoorReadings
import Derived.Test.YtnnbnecpcppkdaaDoorMean
namespace Go.Proofs.YtnnbnecpcppkdaaDoor
open Go.RowKit Go.Gy
set_option linter.unusedVariables false
theorem Q3.can.sized {x : Q3} {N : Nat} (h : x.can) (hq : qz x.q ≤ N) : x.le N := by
  have h1 : x = toQ3 x.q := h
  rw [h1]
  exact toQ3_le hq
set_option maxRecDepth 100000 in
set_option maxHeartbeats 4000000 in
theorem goodR (w : World) (hT : TabW w) (x : Q3) {N : Nat} (hx : x.le N) (hN : 1 ≤ N ∧ N ≤ 1099511627776 := by omega) :
    ∃ z : Q3, z.q = x.q ∧ z.can ∧ z.le (N + 9) ∧ Hid (∀ W, Below w.heap.size w W → Calls Tryd.prog 47 #[.agg #[.bool x.neg, .string x.num, .string x.den]] W fun e w' => e = .returned (.agg #[.bool z.neg, .string z.num, .string z.den]) ∧ Below W.heap.size W w') := by
  obtain ⟨z0, q0, _, l0, O0⟩ := ofR w hT 0
  obtain ⟨z, qz, cz, lz, Ad⟩ := addR w hT x z0 hx l0
  have h0 : z0.q = 0 := q0
  refine ⟨z, by rw [qz, h0]; grind, cz, lz.more (by omega), Lib.hid fun W0 hW0 => ?_⟩
  replace O0 := up O0 hW0
  replace Ad := up Ad hW0
  have hI := ((In.start W0).alloc 25 #[.bool x.neg, .string x.num, .string x.den]).alloc 25 #[.bool false, .string { data := #[] }, .string { data := #[] }]
  rw [World.size_alloc] at hI
  clear q0 qz h0 hT hW0
  go_enter Tryd.func47, Tryd.ntmps47
  go_upto_region 1 with (fail)
  generalize World.alloc _ _ = W1 at hI ⊢
  refine wp_region_in_tail 3 hI (by kernel_rfl) (by kernel_rfl) ?_
  simp only [List.take_succ_cons, List.take_zero, List.drop_succ_cons, List.drop_zero]
  repeat (first
    | (refine wpSeq_off (by rfl) ?_; try simp only [Act.put, List.setIfInBounds_toArray, List.set_cons_zero, List.set_cons_succ])
    | (refine wpSeq_val (v := ?_) (by rfl) (fun W hS => ?_) ?_
       rotate_left
       · (have fx := hS.facts; simp only [factsOf, cellsOf, Nat.zero_add, Nat.reduceAdd] at fx; clear hS; go_simp; first | done | with_reducible rfl)
       try simp only [Act.put, List.setIfInBounds_toArray, List.set_cons_zero, List.set_cons_succ]))
  refine wpSeq_call (v := .agg #[.bool z0.neg, .string z0.num, .string z0.den]) (by rfl) (fun W hS => ?_) (fun W hS => (O0.out W hS.bel)) ?_
  · (clear hS; go_simp; done)
  try simp only [Act.put, List.setIfInBounds_toArray, List.set_cons_zero, List.set_cons_succ]
  repeat (first
    | (refine wpSeq_off (by rfl) ?_; try simp only [Act.put, List.setIfInBounds_toArray, List.set_cons_zero, List.set_cons_succ])
    | (refine wpSeq_val (v := ?_) (by rfl) (fun W hS => ?_) ?_
       rotate_left
       · (have fx := hS.facts; simp only [factsOf, cellsOf, Nat.zero_add, Nat.reduceAdd] at fx; clear hS; go_simp; first | done | with_reducible rfl)
       try simp only [Act.put, List.setIfInBounds_toArray, List.set_cons_zero, List.set_cons_succ]))
  refine wpSeq_call (v := .agg #[.bool z.neg, .string z.num, .string z.den]) (by rfl) (fun W hS => ?_) (fun W hS => (Ad.out W hS.bel)) ?_
  · (clear hS; go_simp; done)
  try simp only [Act.put, List.setIfInBounds_toArray, List.set_cons_zero, List.set_cons_succ]
  repeat (first
    | (refine wpSeq_off (by rfl) ?_; try simp only [Act.put, List.setIfInBounds_toArray, List.set_cons_zero, List.set_cons_succ])
    | (refine wpSeq_val (v := ?_) (by rfl) (fun W hS => ?_) ?_
       rotate_left
       · (have fx := hS.facts; simp only [factsOf, cellsOf, Nat.zero_add, Nat.reduceAdd] at fx; clear hS; go_simp; first | done | with_reducible rfl)
       try simp only [Act.put, List.setIfInBounds_toArray, List.set_cons_zero, List.set_cons_succ]))
  refine wpSeq_nil (fun W hS => ?_)
  clear hI
  have hS0 := hS.take (a := [_])
  have HK := Lib.hid ((hS.all3 (a := []) (.bool z.neg) (.string z.num) (.string z.den)))
  have hfx := hS0.facts
  simp only [factsOf, cellsOf, Nat.zero_add, Nat.reduceAdd] at hfx
  have hfz := fun i => hS0.free (k := 0) (i := i) rfl
  clear hS0 hS
  go_wp2_with fail
  clear hfx hfz
  have hK := HK.out
  clear HK
  generalize World.setCell _ _ _ = W9 at hK ⊢
  refine bodyPost_ret (results_cell_row Tryd.results47 _ _ (W0.heap.size + 1 ) 25 _ (0, 0) _ rfl (hK.blkAt (k := 0) rfl) Tryd.underlying25 rfl (by kernel_rfl)) rfl ?_
  exact ⟨rfl, hK.bel⟩
def PaRel (w : World) (b zb : Q3) (q v : Rat) (N S : Nat) (out i : Value) (wr : World) : Prop :=
  ∃ (k : Nat) (zq zv : Q3), k ≤ 2000 ∧ i = .int .i64 k ∧ (∀ j, j < k → pathV b.q v j ≠ 0) ∧ zq.q = pathQ b.q q v k ∧ zq.can ∧ zv.q = pathV b.q v k ∧ zq.le (N + k * (S + 1)) ∧ zv.le S ∧
    InK w [(w.heap.size + 1 + 1, 25, #[.bool zv.neg, .string zv.num, .string zv.den]), (w.heap.size + 1, 25, #[.bool zq.neg, .string zq.num, .string zq.den]), (w.heap.size, 25, #[.bool b.neg, .string b.num, .string b.den])] (OwnK (w.heap.size + 1 + 1 + 1) 25 3 out (k + 1) (rowQ (pathL b.q q v k))) wr
set_option maxRecDepth 100000 in
set_option maxHeartbeats 8000000 in
theorem path_any (w : World) (b q v : Q3) {N M : Nat} (hqc : q.can) (hb : b.le M) (hq : q.le N) (hv : v.le N) (hb0 : 0 < b.q) (hN : 1 ≤ N ∧ N ≤ 33554432 ∧ 1 ≤ M ∧ M ≤ 33554432) (hT : TabW w) :
    Calls Tryd.prog 48 #[.agg #[.bool b.neg, .string b.num, .string b.den], .agg #[.bool q.neg, .string q.num, .string q.den], .agg #[.bool v.neg, .string v.num, .string v.den], .int .i64 2000] w fun e w' => ∃ (v' : Value) (m : Nat) (d : Bool), e = .returned (.tuple #[v', .bool d]) ∧ (d = true ↔ pathV b.q v.q m = 0) ∧ PathEnd b.q v.q m ∧
      w'.ownsRow w.heap.size 25 3 v' (m + 1) (rowQ (pathL b.q q.q v.q m)) ∧ Below w.heap.size w w' := by
  have HT := Lib.hid hT
  obtain ⟨i0, hi0, hz0, hz1, hz2⟩ := info_parts info_rat
  obtain ⟨S, hS⟩ : ∃ S, S = N + M + 9 := ⟨_, rfl⟩
  have hqv : qz v.q ≤ N := hv.qz hN.1
  have hqb : qz b.q ≤ M := hb.qz hN.2.2.1
  have HPZ := Lib.hid (show ∀ k, k ≤ 2000 → qz (pathV b.q v.q k) ≤ S from fun k hk => by have := pathV_qz (v := v.q) hb0 k hk; omega)
  have hst := Lib.hid (show ∀ W, InK w [(w.heap.size + 1 + 1, 25, #[.bool v.neg, .string v.num, .string v.den]), (w.heap.size + 1, 25, #[.bool q.neg, .string q.num, .string q.den]), (w.heap.size, 25, #[.bool b.neg, .string b.num, .string b.den])] (OwnK (w.heap.size + 1 + 1 + 1) 25 3 (.slice (some ⟨w.heap.size + 1 + 1 + 1, 0, none⟩) 1 1) 1 [.bool q.neg, .string q.num, .string q.den]) W → PaRel w b b q.q v.q N S (.slice (some ⟨w.heap.size + 1 + 1 + 1, 0, none⟩) 1 1) (.int .i64 0) W from fun W h =>
    ⟨0, q, v, Nat.zero_le _, rfl, fun j hj => absurd hj (Nat.not_lt_zero j), rfl, hqc, rfl, hq.more (by omega), hv.more (by omega), by
      have hr : rowQ (pathL b.q q.q v.q 0) = [.bool q.neg, .string q.num, .string q.den] := by
        show rowQ ([] ++ [q.q]) = _
        rw [rowQ_can [] hqc rfl]
        rfl
      rw [hr]; exact h⟩)
  have hI := (((In.start w).alloc 25 #[.bool b.neg, .string b.num, .string b.den]).alloc 25 #[.bool q.neg, .string q.num, .string q.den]).alloc 25 #[.bool v.neg, .string v.num, .string v.den]
  rw [World.size_alloc, World.size_alloc] at hI
  have hown := World.ownsRow_lit (e := 25) (size := 3) (base := w.heap.size + 1 + 1 + 1) (((w.alloc (.cells #[.bool b.neg, .string b.num, .string b.den] 25)).alloc (.cells #[.bool q.neg, .string q.num, .string q.den] 25)).alloc (.cells #[.bool v.neg, .string v.num, .string v.den] 25)) #[.bool q.neg, .string q.num, .string q.den] 1 (by simp) (by decide) rfl
  have hIK := hst.out _ ⟨hI.skip (.cells #[.bool q.neg, .string q.num, .string q.den] 25), by simp, by simpa using hown⟩
  have HST := Lib.hid hIK
  clear hT hqc hst hI hown hIK
  go_enter Tryd.func48, Tryd.ntmps48
  go_wp2_with fail
  go_loopw [10, 14] (fun out i wr => PaRel w b b q.q v.q N S out i wr) (fun _ i _ => 2000 - (intOf i).toNat)
  case atStart => exact HST.out
  case round =>
    clear HST
    obtain ⟨k, zq, zv, hk, rfl, hne, hqq, hqc, hvq, hql, hvl, hI⟩ := hrel
    obtain ⟨cs, _, ps, ns, SV⟩ := signR w HT.out zv hvl
    have hc0 : cs = 0 ↔ pathV b.q v.q k = 0 := by
      rw [← hvq]
      constructor
      · intro h
        subst h
        have h1 : ¬ 0 < zv.q := fun h => absurd (ps.mpr h) (by decide)
        have h2 : ¬ zv.q < 0 := fun h => absurd (ns.mpr h) (by decide)
        grind
      · intro h
        have h1 : ¬ 0 < cs := fun h1 => absurd (ps.mp h1) (by rw [h]; decide)
        have h2 : ¬ cs < 0 := fun h1 => absurd (ns.mp h1) (by rw [h]; decide)
        omega
    clear ps ns
    by_cases hkn : k < 2000
    · have hki : (k : Int) < 2000 := by omega
      have fx := hI.facts
      simp only [factsOf, cellsOf, Nat.zero_add, Nat.reduceAdd] at fx
      go_wp2_with fail
      refine (SV.out _ hI.bel).mono ?_
      rintro e wn ⟨rfl, hb⟩
      replace hI := hI.callK ownL hb
      clear hb
      clear fx
      by_cases hz : cs = 0
      · have hp0 := hc0.mp hz
        subst hz
        have HO := Lib.hid (own_mono hI.k.2 (show w.heap.size ≤ w.heap.size + 1 + 1 + 1 by omega))
        have HE := Lib.hid (show PathEnd b.q v.q k from ⟨hk, hne, fun _ => hp0⟩)
        have hbel := hI.bel
        clear hI
        go_wp2
        refine bodyPost_ret (results_tmp2 rfl _ _ _) rfl ?_
        exact ⟨_, k, true, rfl, ⟨fun _ => hp0, fun _ => rfl⟩, HE.out, HO.out, hbel⟩
      · have hz1 : (cs == 0) = false := by simpa using hz
        have hne' : ∀ j, j < k + 1 → pathV b.q v.q j ≠ 0 := by
          intro j hj
          rcases Nat.lt_succ_iff_lt_or_eq.mp hj with h | rfl
          · exact hne j h
          · exact fun h => hz (hc0.mpr h)
        have HNE := Lib.hid hne'
        obtain ⟨c1, _, p1, _, C1⟩ := cmpR w HT.out zv b hvl hb
        obtain ⟨zn, qn_, _, ln, NG⟩ := negR w HT.out zv hvl
        obtain ⟨c2, _, p2, _, C2⟩ := cmpR w HT.out zn b ln hb
        rw [qn_] at p2
        by_cases h1 : c1 > 0
        · obtain ⟨zw, qw, hzc, _, SB⟩ := subR w HT.out zv b hvl hb
          have hzq : zw.q = pathV b.q v.q (k + 1) := by
            show _ = stepV b.q (pathV b.q v.q k)
            rw [qw, ← hvq]; unfold stepV; rw [if_pos (p1.mp h1)]
          clear qw p1 p2 qn_
          have fx := hI.facts
          simp only [factsOf, cellsOf, Nat.zero_add, Nat.reduceAdd] at fx
          go_wp2_with fail
          refine (C1.out _ hI.bel).mono ?_
          rintro e wn ⟨rfl, hb⟩
          replace hI := hI.callK ownL hb
          clear hb
          clear fx
          have fx := hI.facts
          simp only [factsOf, cellsOf, Nat.zero_add, Nat.reduceAdd] at fx
          go_wp2_with fail
          refine (SB.out _ hI.bel).mono ?_
          rintro e wn ⟨rfl, hb⟩
          replace hI := hI.callK ownL hb
          clear hb
          clear fx SB
          have hS1 := hI.toIn.take (a := [_])
          have fx := hS1.facts
          simp only [factsOf, cellsOf, Nat.zero_add, Nat.reduceAdd] at fx
          have hfz := fun i => hS1.free (k := 0) (i := i) rfl
          have HX := Lib.hid (hI.all3K (a := []) (by omega) (.bool zw.neg) (.string zw.num) (.string zw.den))
          clear hS1 hI
          go_upto_region 11 with (fail)
          have hI : InK w (_ :: _ :: _) _ _ := HX.out
          clear HX fx hfz h1
          generalize World.setCell _ _ _ = W2 at hI ⊢
          have hzl : zw.le S := hzc.sized (by rw [hzq]; exact HPZ.out (k + 1) (by omega))
          have hkS : k * (S + 1) ≤ 2000 * (S + 1) := Nat.mul_le_mul_right _ hk
          obtain ⟨zr, qr, cr, lr, AQ⟩ := addR w HT.out zq zw hql hzl
          have hrq : zr.q = pathQ b.q q.q v.q (k + 1) := by rw [qr, hqq, hzq]; rfl
          have hrl : zr.le (N + (k + 1) * (S + 1)) := lr.more (by rw [Nat.add_mul]; omega)
          have HROW := Lib.hid (show rowQ (pathL b.q q.q v.q (k + 1)) = rowQ (pathL b.q q.q v.q k) ++ [.bool zr.neg, .string zr.num, .string zr.den] from by rw [pathL_succ]; exact rowQ_can _ cr hrq)
          have HNN := Lib.hid (show ∀ v' W, In w [(w.heap.size + 1 + 1, 25, #[.bool zw.neg, .string zw.num, .string zw.den]), (w.heap.size + 1, 25, #[.bool zr.neg, .string zr.num, .string zr.den]), (w.heap.size, 25, #[.bool b.neg, .string b.num, .string b.den])] W → w.heap.size + 1 + 1 + 1 ≤ W.heap.size → W.ownsRow (w.heap.size + 1 + 1 + 1) 25 3 v' (k + 1 + 1) (rowQ (pathL b.q q.q v.q k) ++ [.bool zr.neg, .string zr.num, .string zr.den]) → PaRel w b b q.q v.q N S v' (.int .i64 ((k : Int) + 1)) W from fun v' W h1 h2 h3 => ⟨k + 1, zr, zw, hkn, by simp, HNE.out, hrq, cr, hzq, hrl, hzl, h1, h2, by rw [HROW.out]; exact h3⟩)
          have hwk : IntKind.i64.wrap ((k : Int) + 1) = (k : Int) + 1 := by rw [IntKind.wrap_i64]; omega
          clear hzq hzc hzl hkS qr hrq hrl cr lr hqq hqc hql hvq hvl hne hne' hc0 hz hz1 C1 C2 NG ln SV
          have fx := hI.facts
          simp only [factsOf, cellsOf, Nat.zero_add, Nat.reduceAdd] at fx
          go_wp2_with fail
          refine (AQ.out _ hI.bel).mono ?_
          rintro e wn ⟨rfl, hb⟩
          replace hI := hI.callK ownL hb
          clear hb
          clear fx
          have hS1 := (hI.toIn.drop (a := [_])).take (a := [_])
          have fx := hS1.facts
          simp only [factsOf, cellsOf, Nat.zero_add, Nat.reduceAdd] at fx
          have hfz := fun i => hS1.free (k := 0) (i := i) rfl
          have HX := Lib.hid (hI.all3K (a := [_]) (by omega) (.bool zr.neg) (.string zr.num) (.string zr.den))
          clear hS1 hI
          go_upto_region 12 with (fail)
          have hI : InK w (_ :: _ :: _) _ _ := HX.out
          clear HX fx hfz
          generalize World.setCell _ _ _ = W3 at hI ⊢
          have fx := hI.facts
          simp only [factsOf, cellsOf, Nat.zero_add, Nat.reduceAdd] at fx
          have hbase := hI.k.1
          have Ho := Lib.hid hI.k.2
          have HI := Lib.hid hI.toIn
          clear hI
          go_wp2_with (at_builtin; refine wpList_push rfl (.tmp 41) (.tmp 43) 48 rfl (w.heap.size + 1 + 1 + 1) 25 i0 (.agg #[.bool false, .string { data := #[] }, .string { data := #[] }]) 3 40 Tryd.underlying48 hi0 hz0 hz1 hz2 rfl (by omega) _ (k + 1) _ rfl Ho.out [.bool zr.neg, .string zr.num, .string zr.den] rfl rfl (by simp [Value.oneCell']) (by unfold maxLen; omega) (by omega) hbase ?_; intro v6 w6 hn6 hb6 _)
          have hrel := HNN.out _ _ (HI.out.callB hb6 (by omega) (by simp; omega)) (Nat.le_trans hbase hb6.size) hn6
          clear hn6 hb6 fx
          go_roundw
          case rel => exact hrel
          case measure => simp [intOf]; omega
        · have g1 : ¬ b.q < pathV b.q v.q k := by rw [← hvq]; exact fun h => h1 (p1.mpr h)
          by_cases h2 : c2 > 0
          · obtain ⟨zw, qw, hzc, _, SB⟩ := addR w HT.out zv b hvl hb
            have hzq : zw.q = pathV b.q v.q (k + 1) := by
              show _ = stepV b.q (pathV b.q v.q k)
              unfold stepV
              rw [if_neg g1, ← hvq, if_pos (p2.mp h2), qw]
            clear qw p1 p2 qn_ g1
            have fx := hI.facts
            simp only [factsOf, cellsOf, Nat.zero_add, Nat.reduceAdd] at fx
            go_wp2_with fail
            refine (C1.out _ hI.bel).mono ?_
            rintro e wn ⟨rfl, hb⟩
            replace hI := hI.callK ownL hb
            clear hb
            clear fx
            go_upto_region 9 with (fail)
            refine wp_region_inK ownL hI (by kernel_rfl) (by kernel_rfl) ?_
            repeat (first
              | (refine wpSeq_off (by rfl) ?_; try simp only [Act.put, List.setIfInBounds_toArray, List.set_cons_zero, List.set_cons_succ])
              | (refine wpSeq_val (v := ?_) (by rfl) (fun W hS => ?_) ?_
                 rotate_left
                 · (have fx := hS.facts; simp only [factsOf, cellsOf, Nat.zero_add, Nat.reduceAdd] at fx; clear hS; go_simp; first | done | with_reducible rfl)
                 try simp only [Act.put, List.setIfInBounds_toArray, List.set_cons_zero, List.set_cons_succ]))
            refine wpSeq_call (v := .agg #[.bool zn.neg, .string zn.num, .string zn.den]) (by rfl) (fun W hS => ?_) (fun W hS => (NG.out W hS.bel)) ?_
            · (clear hS; go_simp; done)
            try simp only [Act.put, List.setIfInBounds_toArray, List.set_cons_zero, List.set_cons_succ]
            repeat (first
              | (refine wpSeq_off (by rfl) ?_; try simp only [Act.put, List.setIfInBounds_toArray, List.set_cons_zero, List.set_cons_succ])
              | (refine wpSeq_val (v := ?_) (by rfl) (fun W hS => ?_) ?_
                 rotate_left
                 · (have fx := hS.facts; simp only [factsOf, cellsOf, Nat.zero_add, Nat.reduceAdd] at fx; clear hS; go_simp; first | done | with_reducible rfl)
                 try simp only [Act.put, List.setIfInBounds_toArray, List.set_cons_zero, List.set_cons_succ]))
            refine wpSeq_call (v := .int .i64 c2) (by rfl) (fun W hS => ?_) (fun W hS => (C2.out W hS.bel)) ?_
            · (clear hS; go_simp; done)
            try simp only [Act.put, List.setIfInBounds_toArray, List.set_cons_zero, List.set_cons_succ]
            repeat (first
              | (refine wpSeq_off (by rfl) ?_; try simp only [Act.put, List.setIfInBounds_toArray, List.set_cons_zero, List.set_cons_succ])
              | (refine wpSeq_val (v := ?_) (by rfl) (fun W hS => ?_) ?_
                 rotate_left
                 · (have fx := hS.facts; simp only [factsOf, cellsOf, Nat.zero_add, Nat.reduceAdd] at fx; clear hS; go_simp; first | done | with_reducible rfl)
                 try simp only [Act.put, List.setIfInBounds_toArray, List.set_cons_zero, List.set_cons_succ]))
            refine wpSeq_nil (fun W hS => ?_)
            clear hI
            have fx := hS.facts
            simp only [factsOf, cellsOf, Nat.zero_add, Nat.reduceAdd] at fx
            go_wp2_with fail
            refine (SB.out _ hS.bel).mono ?_
            rintro e wn ⟨rfl, hb⟩
            replace hS := hS.callK ownL hb
            clear hb
            have hI := hS
            clear fx SB hS
            have hS1 := hI.toIn.take (a := [_])
            have fx := hS1.facts
            simp only [factsOf, cellsOf, Nat.zero_add, Nat.reduceAdd] at fx
            have hfz := fun i => hS1.free (k := 0) (i := i) rfl
            have HX := Lib.hid (hI.all3K (a := []) (by omega) (.bool zw.neg) (.string zw.num) (.string zw.den))
            clear hS1 hI
            go_upto_region 11 with (fail)
            have hI : InK w (_ :: _ :: _) _ _ := HX.out
            clear HX fx hfz h1 h2
            generalize World.setCell _ _ _ = W2 at hI ⊢
            have hzl : zw.le S := hzc.sized (by rw [hzq]; exact HPZ.out (k + 1) (by omega))
            have hkS : k * (S + 1) ≤ 2000 * (S + 1) := Nat.mul_le_mul_right _ hk
            obtain ⟨zr, qr, cr, lr, AQ⟩ := addR w HT.out zq zw hql hzl
            have hrq : zr.q = pathQ b.q q.q v.q (k + 1) := by rw [qr, hqq, hzq]; rfl
            have hrl : zr.le (N + (k + 1) * (S + 1)) := lr.more (by rw [Nat.add_mul]; omega)
            have HROW := Lib.hid (show rowQ (pathL b.q q.q v.q (k + 1)) = rowQ (pathL b.q q.q v.q k) ++ [.bool zr.neg, .string zr.num, .string zr.den] from by rw [pathL_succ]; exact rowQ_can _ cr hrq)
            have HNN := Lib.hid (show ∀ v' W, In w [(w.heap.size + 1 + 1, 25, #[.bool zw.neg, .string zw.num, .string zw.den]), (w.heap.size + 1, 25, #[.bool zr.neg, .string zr.num, .string zr.den]), (w.heap.size, 25, #[.bool b.neg, .string b.num, .string b.den])] W → w.heap.size + 1 + 1 + 1 ≤ W.heap.size → W.ownsRow (w.heap.size + 1 + 1 + 1) 25 3 v' (k + 1 + 1) (rowQ (pathL b.q q.q v.q k) ++ [.bool zr.neg, .string zr.num, .string zr.den]) → PaRel w b b q.q v.q N S v' (.int .i64 ((k : Int) + 1)) W from fun v' W h1 h2 h3 => ⟨k + 1, zr, zw, hkn, by simp, HNE.out, hrq, cr, hzq, hrl, hzl, h1, h2, by rw [HROW.out]; exact h3⟩)
            have hwk : IntKind.i64.wrap ((k : Int) + 1) = (k : Int) + 1 := by rw [IntKind.wrap_i64]; omega
            clear hzq hzc hzl hkS qr hrq hrl cr lr hqq hqc hql hvq hvl hne hne' hc0 hz hz1 C1 C2 NG ln SV
            have fx := hI.facts
            simp only [factsOf, cellsOf, Nat.zero_add, Nat.reduceAdd] at fx
            go_wp2_with fail
            refine (AQ.out _ hI.bel).mono ?_
            rintro e wn ⟨rfl, hb⟩
            replace hI := hI.callK ownL hb
            clear hb
            clear fx
            have hS1 := (hI.toIn.drop (a := [_])).take (a := [_])
            have fx := hS1.facts
            simp only [factsOf, cellsOf, Nat.zero_add, Nat.reduceAdd] at fx
            have hfz := fun i => hS1.free (k := 0) (i := i) rfl
            have HX := Lib.hid (hI.all3K (a := [_]) (by omega) (.bool zr.neg) (.string zr.num) (.string zr.den))
            clear hS1 hI
            go_upto_region 12 with (fail)
            have hI : InK w (_ :: _ :: _) _ _ := HX.out
            clear HX fx hfz
            generalize World.setCell _ _ _ = W3 at hI ⊢
            have fx := hI.facts
            simp only [factsOf, cellsOf, Nat.zero_add, Nat.reduceAdd] at fx
            have hbase := hI.k.1
            have Ho := Lib.hid hI.k.2
            have HI := Lib.hid hI.toIn
            clear hI
            go_wp2_with (at_builtin; refine wpList_push rfl (.tmp 41) (.tmp 43) 48 rfl (w.heap.size + 1 + 1 + 1) 25 i0 (.agg #[.bool false, .string { data := #[] }, .string { data := #[] }]) 3 40 Tryd.underlying48 hi0 hz0 hz1 hz2 rfl (by omega) _ (k + 1) _ rfl Ho.out [.bool zr.neg, .string zr.num, .string zr.den] rfl rfl (by simp [Value.oneCell']) (by unfold maxLen; omega) (by omega) hbase ?_; intro v6 w6 hn6 hb6 _)
            have hrel := HNN.out _ _ (HI.out.callB hb6 (by omega) (by simp; omega)) (Nat.le_trans hbase hb6.size) hn6
            clear hn6 hb6 fx
            go_roundw
            case rel => exact hrel
            case measure => simp [intOf]; omega
          · obtain ⟨zw, qw, hzc, _, SB⟩ := ofR w HT.out 0
            have hzq : zw.q = pathV b.q v.q (k + 1) := by
              show _ = stepV b.q (pathV b.q v.q k)
              unfold stepV
              rw [if_neg g1, ← hvq, if_neg (fun h => h2 (p2.mpr h)), qw]
              rfl
            clear qw p1 p2 qn_ g1
            have fx := hI.facts
            simp only [factsOf, cellsOf, Nat.zero_add, Nat.reduceAdd] at fx
            go_wp2_with fail
            refine (C1.out _ hI.bel).mono ?_
            rintro e wn ⟨rfl, hb⟩
            replace hI := hI.callK ownL hb
            clear hb
            clear fx
            go_upto_region 9 with (fail)
            refine wp_region_inK ownL hI (by kernel_rfl) (by kernel_rfl) ?_
            repeat (first
              | (refine wpSeq_off (by rfl) ?_; try simp only [Act.put, List.setIfInBounds_toArray, List.set_cons_zero, List.set_cons_succ])
              | (refine wpSeq_val (v := ?_) (by rfl) (fun W hS => ?_) ?_
                 rotate_left
                 · (have fx := hS.facts; simp only [factsOf, cellsOf, Nat.zero_add, Nat.reduceAdd] at fx; clear hS; go_simp; first | done | with_reducible rfl)
                 try simp only [Act.put, List.setIfInBounds_toArray, List.set_cons_zero, List.set_cons_succ]))
            refine wpSeq_call (v := .agg #[.bool zn.neg, .string zn.num, .string zn.den]) (by rfl) (fun W hS => ?_) (fun W hS => (NG.out W hS.bel)) ?_
            · (clear hS; go_simp; done)
            try simp only [Act.put, List.setIfInBounds_toArray, List.set_cons_zero, List.set_cons_succ]
            repeat (first
              | (refine wpSeq_off (by rfl) ?_; try simp only [Act.put, List.setIfInBounds_toArray, List.set_cons_zero, List.set_cons_succ])
              | (refine wpSeq_val (v := ?_) (by rfl) (fun W hS => ?_) ?_
                 rotate_left
                 · (have fx := hS.facts; simp only [factsOf, cellsOf, Nat.zero_add, Nat.reduceAdd] at fx; clear hS; go_simp; first | done | with_reducible rfl)
                 try simp only [Act.put, List.setIfInBounds_toArray, List.set_cons_zero, List.set_cons_succ]))
            refine wpSeq_call (v := .int .i64 c2) (by rfl) (fun W hS => ?_) (fun W hS => (C2.out W hS.bel)) ?_
            · (clear hS; go_simp; done)
            try simp only [Act.put, List.setIfInBounds_toArray, List.set_cons_zero, List.set_cons_succ]
            repeat (first
              | (refine wpSeq_off (by rfl) ?_; try simp only [Act.put, List.setIfInBounds_toArray, List.set_cons_zero, List.set_cons_succ])
              | (refine wpSeq_val (v := ?_) (by rfl) (fun W hS => ?_) ?_
                 rotate_left
                 · (have fx := hS.facts; simp only [factsOf, cellsOf, Nat.zero_add, Nat.reduceAdd] at fx; clear hS; go_simp; first | done | with_reducible rfl)
                 try simp only [Act.put, List.setIfInBounds_toArray, List.set_cons_zero, List.set_cons_succ]))
            refine wpSeq_nil (fun W hS => ?_)
            clear hI
            go_wp2_with fail
            refine (SB.out _ hS.bel).mono ?_
            rintro e wn ⟨rfl, hb⟩
            replace hS := hS.callK ownL hb
            clear hb
            have hI := hS
            clear SB hS
            have hS1 := hI.toIn.take (a := [_])
            have fx := hS1.facts
            simp only [factsOf, cellsOf, Nat.zero_add, Nat.reduceAdd] at fx
            have hfz := fun i => hS1.free (k := 0) (i := i) rfl
            have HX := Lib.hid (hI.all3K (a := []) (by omega) (.bool zw.neg) (.string zw.num) (.string zw.den))
            clear hS1 hI
            go_upto_region 11 with (fail)
            have hI : InK w (_ :: _ :: _) _ _ := HX.out
            clear HX fx hfz h1 h2
            generalize World.setCell _ _ _ = W2 at hI ⊢
            have hzl : zw.le S := hzc.sized (by rw [hzq]; exact HPZ.out (k + 1) (by omega))
            have hkS : k * (S + 1) ≤ 2000 * (S + 1) := Nat.mul_le_mul_right _ hk
            obtain ⟨zr, qr, cr, lr, AQ⟩ := addR w HT.out zq zw hql hzl
            have hrq : zr.q = pathQ b.q q.q v.q (k + 1) := by rw [qr, hqq, hzq]; rfl
            have hrl : zr.le (N + (k + 1) * (S + 1)) := lr.more (by rw [Nat.add_mul]; omega)
            have HROW := Lib.hid (show rowQ (pathL b.q q.q v.q (k + 1)) = rowQ (pathL b.q q.q v.q k) ++ [.bool zr.neg, .string zr.num, .string zr.den] from by rw [pathL_succ]; exact rowQ_can _ cr hrq)
            have HNN := Lib.hid (show ∀ v' W, In w [(w.heap.size + 1 + 1, 25, #[.bool zw.neg, .string zw.num, .string zw.den]), (w.heap.size + 1, 25, #[.bool zr.neg, .string zr.num, .string zr.den]), (w.heap.size, 25, #[.bool b.neg, .string b.num, .string b.den])] W → w.heap.size + 1 + 1 + 1 ≤ W.heap.size → W.ownsRow (w.heap.size + 1 + 1 + 1) 25 3 v' (k + 1 + 1) (rowQ (pathL b.q q.q v.q k) ++ [.bool zr.neg, .string zr.num, .string zr.den]) → PaRel w b b q.q v.q N S v' (.int .i64 ((k : Int) + 1)) W from fun v' W h1 h2 h3 => ⟨k + 1, zr, zw, hkn, by simp, HNE.out, hrq, cr, hzq, hrl, hzl, h1, h2, by rw [HROW.out]; exact h3⟩)
            have hwk : IntKind.i64.wrap ((k : Int) + 1) = (k : Int) + 1 := by rw [IntKind.wrap_i64]; omega
            clear hzq hzc hzl hkS qr hrq hrl cr lr hqq hqc hql hvq hvl hne hne' hc0 hz hz1 C1 C2 NG ln SV
            have fx := hI.facts
            simp only [factsOf, cellsOf, Nat.zero_add, Nat.reduceAdd] at fx
            go_wp2_with fail
            refine (AQ.out _ hI.bel).mono ?_
            rintro e wn ⟨rfl, hb⟩
            replace hI := hI.callK ownL hb
            clear hb
            clear fx
            have hS1 := (hI.toIn.drop (a := [_])).take (a := [_])
            have fx := hS1.facts
            simp only [factsOf, cellsOf, Nat.zero_add, Nat.reduceAdd] at fx
            have hfz := fun i => hS1.free (k := 0) (i := i) rfl
            have HX := Lib.hid (hI.all3K (a := [_]) (by omega) (.bool zr.neg) (.string zr.num) (.string zr.den))
            clear hS1 hI
            go_upto_region 12 with (fail)
            have hI : InK w (_ :: _ :: _) _ _ := HX.out
            clear HX fx hfz
            generalize World.setCell _ _ _ = W3 at hI ⊢
            have fx := hI.facts
            simp only [factsOf, cellsOf, Nat.zero_add, Nat.reduceAdd] at fx
            have hbase := hI.k.1
            have Ho := Lib.hid hI.k.2
            have HI := Lib.hid hI.toIn
            clear hI
            go_wp2_with (at_builtin; refine wpList_push rfl (.tmp 41) (.tmp 43) 48 rfl (w.heap.size + 1 + 1 + 1) 25 i0 (.agg #[.bool false, .string { data := #[] }, .string { data := #[] }]) 3 40 Tryd.underlying48 hi0 hz0 hz1 hz2 rfl (by omega) _ (k + 1) _ rfl Ho.out [.bool zr.neg, .string zr.num, .string zr.den] rfl rfl (by simp [Value.oneCell']) (by unfold maxLen; omega) (by omega) hbase ?_; intro v6 w6 hn6 hb6 _)
            have hrel := HNN.out _ _ (HI.out.callB hb6 (by omega) (by simp; omega)) (Nat.le_trans hbase hb6.size) hn6
            clear hn6 hb6 fx
            go_roundw
            case rel => exact hrel
            case measure => simp [intOf]; omega
    · obtain rfl : k = 2000 := by omega
      have hki : ¬ ((2000 : Nat) : Int) < 2000 := by decide
      have fx := hI.facts
      simp only [factsOf, cellsOf, Nat.zero_add, Nat.reduceAdd] at fx
      go_wp2_with fail
      refine (SV.out _ hI.bel).mono ?_
      rintro e wn ⟨rfl, hb⟩
      replace hI := hI.callK ownL hb
      clear hb
      clear fx
      have HO := Lib.hid (own_mono hI.k.2 (show w.heap.size ≤ w.heap.size + 1 + 1 + 1 by omega))
      have HE := Lib.hid (show PathEnd b.q v.q 2000 from ⟨hk, hne, fun h => absurd h (by decide)⟩)
      have HC := Lib.hid hc0
      have hbel := hI.bel
      clear hI hc0
      go_wp2
      refine bodyPost_ret (results_tmp2 rfl _ _ _) rfl ?_
      exact ⟨_, 2000, (cs == 0), rfl, by rw [beq_iff_eq]; exact HC.out, HE.out, HO.out, hbel⟩
end Go.Proofs.YtnnbnecpcppkdaaDoor
