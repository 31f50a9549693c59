/- gantmake.fraction. Conditions: those typed. -/
import Derived.Test.YtnnbnecpcppkdaaDoorMakeQ
import Derived.Test.YtnnbnecpcppkdaaDoorSeqIn
import Derived.Lib.ConvBytes
namespace Go.Proofs.YtnnbnecpcppkdaaDoor
open Go.RowKit Go.Gy
set_option linter.unusedVariables false
theorem conv_str (w : World) (s : ByteArray) : ∃ (cap : Nat) (w' : World), (convert 9 165 (.string s)).run Tryd.prog w = .ok (.slice (some ⟨w.heap.size, 0, none⟩) s.size cap) w' ∧ Below w.heap.size w w' ∧ w'.heap.size = w.heap.size + 1 ∧
    ∀ (j : Nat) (h : j < s.size), w'.cell? ⟨w.heap.size, j, none⟩ = some (.int .u8 (s[j].toNat : Int)) := by
  refine ⟨_, _, Lib.run_convert_string_bytes w 9 165 5 s Tryd.underlying9 Tryd.underlying165 Tryd.underlying5, ⟨rfl, rfl, rfl, by rw [Lib.bytesWorld_size]; omega, fun k hk => Lib.bytesWorld_at_old w _ s k hk⟩, Lib.bytesWorld_size _ _ _, fun j h => ?_⟩
  rw [Lib.bytesWorld_cell w _ s j h]
  congr 2
  have h2 : j < s.data.toList.length := by simpa using h
  rw [List.getD_eq_getElem?_getD, List.getElem?_eq_getElem h2]
  simp
  rfl
set_option maxRecDepth 100000 in
set_option maxHeartbeats 4000000 in
theorem fraction_any (w : World) (x : Q3) (hc : x.can) (hl : x.le 7) :
    Calls Tryd.prog 114 #[.agg #[.bool x.neg, .string x.num, .string x.den]] w fun r w' => r = .returned (.tuple #[.int .i64 x.q.num, .int .i64 x.q.den]) ∧ Below w.heap.size w w' := by
  have hs1 : x.num.size ≤ 7 := hl.1
  have hs2 : x.den.size ≤ 7 := hl.2
  obtain ⟨P, hP⟩ : ∃ P, P = x.q.num := ⟨_, rfl⟩
  obtain ⟨D, hD⟩ : ∃ D, D = x.q.den := ⟨_, rfl⟩
  have hD0 : 1 ≤ D := by rw [hD]; exact x.q.den_pos
  have hn : sval x.num = P.natAbs := by rw [hc, hP]; exact sval_natS _
  have hd : sval x.den = D := by rw [hc, hD]; exact sval_natS _
  have hg : x.neg = decide (P < 0) := by rw [hc, hP]; rfl
  have hnb : sval x.num < 256 ^ 7 := by
    have := bval_lt x.num.data.toList
    exact Nat.lt_of_lt_of_le this (Nat.pow_le_pow_right (by omega) (by simpa using hs1))
  have hdb : sval x.den < 256 ^ 7 := by
    have := bval_lt x.den.data.toList
    exact Nat.lt_of_lt_of_le this (Nat.pow_le_pow_right (by omega) (by simpa using hs2))
  rw [← hP, ← hD]
  obtain ⟨xn, xs, xt⟩ := x
  replace hn : sval xs = P.natAbs := hn
  replace hd : sval xt = D := hd
  replace hg : xn = decide (P < 0) := hg
  replace hs1 : xs.size ≤ 7 := hs1
  replace hs2 : xt.size ≤ 7 := hs2
  replace hnb : P.natAbs < 72057594037927936 := by rw [← hn]; exact hnb
  replace hdb : D < 72057594037927936 := by rw [← hd]; exact hdb
  have HN := Lib.hid hn
  have HD := Lib.hid hd
  have HG := Lib.hid hg
  clear hn hd hg hP hD hl hc
  have hI := (In.start w).alloc 25 #[.bool xn, .string xs, .string xt]
  go_enter Tryd.func114, Tryd.ntmps114
  go_upto_region 2 with (fail)
  generalize World.alloc _ _ = W1 at hI ⊢
  have fx := hI.facts
  simp only [factsOf, cellsOf, Nat.zero_add, Nat.reduceAdd] at fx
  obtain ⟨cap, W2, hcv, hb2, hz2, hc2⟩ := conv_str W1 xs
  have HC2 := Lib.hid hc2
  replace hI := hI.call hb2
  have hgl : W1.heap.size < W2.heap.size := by omega
  clear hb2 hz2 hc2
  go_wp2_with fail
  generalize W1.heap.size = g2 at HC2 hgl ⊢
  clear hcv fx
  go_loop [4, 14] (fun n i => ∃ k m : Nat, k ≤ xs.size ∧ i = .int .i64 k ∧ n = .int .i64 m ∧ Hid (m = bval (xs.data.toList.take k))) (fun _ i => xs.size - (intOf i).toNat)
  case atStart => exact ⟨0, 0, Nat.zero_le _, rfl, rfl, Lib.hid rfl⟩
  case round =>
    obtain ⟨k, m, hk, rfl, rfl, Hm⟩ := hrel
    by_cases hlt : k < xs.size
    · have hm : m < 281474976710656 := by
        rw [Hm.out]
        have h1 := bval_lt (xs.data.toList.take k)
        rw [List.length_take] at h1
        exact Nat.lt_of_lt_of_le h1 (Nat.le_trans (Nat.pow_le_pow_right (by omega) (show min k xs.data.toList.length ≤ 6 by omega)) (by decide))
      have hx := xs[k].toNat_lt
      have hcell := HC2.out k hlt
      have hki : (k : Int) < (xs.size : Int) := by omega
      have hki2 : 0 ≤ (k : Int) ∧ (k : Int) < (xs.size : Int) := by omega
      have hw1 : IntKind.i64.wrap (256 * (m : Int)) = 256 * (m : Int) := by rw [IntKind.wrap_i64]; omega
      have hw2 : IntKind.i64.wrap (256 * (m : Int) + (xs[k].toNat : Int)) = 256 * (m : Int) + (xs[k].toNat : Int) := by rw [IntKind.wrap_i64]; omega
      have hw3 : IntKind.i64.wrap (xs[k].toNat : Int) = (xs[k].toNat : Int) := by rw [IntKind.wrap_i64]; omega
      have hwk : IntKind.i64.wrap ((k : Int) + 1) = (k : Int) + 1 := by rw [IntKind.wrap_i64]; omega
      have Hs := Lib.hid (show 256 * m + xs[k].toNat = bval (xs.data.toList.take (k + 1)) by rw [take_snoc xs k hlt, bval_snoc, Hm.out])
      go_wp2
      go_round
      case rel => exact ⟨k + 1, 256 * m + xs[k].toNat, by omega, by simp, by simp, Hs⟩
      case measure => simp [intOf]; omega
    · obtain rfl : k = xs.size := by omega
      have hm2 : m = P.natAbs := by
        rw [Hm.out, List.take_of_length_le (by simp)]
        exact HN.out
      subst hm2
      have hki : ¬ (xs.size : Int) < (xs.size : Int) := by omega
      have fx := hI.facts
      simp only [factsOf, cellsOf, Nat.zero_add, Nat.reduceAdd] at fx
      obtain ⟨cap3, W3, hcv3, hb3, hz3, hc3⟩ := conv_str W2 xt
      have HC3 := Lib.hid hc3
      have HI3 := Lib.hid (hI.call hb3)
      have hgl3 : W2.heap.size < W3.heap.size := by omega
      clear hb3 hz3 hc3
      go_wp2_with fail
      generalize W2.heap.size = g3 at HC3 hgl3 hgl ⊢
      clear hcv3 fx hI HC2
      go_loop [5, 28] (fun n i => ∃ k m : Nat, k ≤ xt.size ∧ i = .int .i64 k ∧ n = .int .i64 m ∧ Hid (m = bval (xt.data.toList.take k))) (fun _ i => xt.size - (intOf i).toNat)
      case atStart => exact ⟨0, 0, Nat.zero_le _, rfl, rfl, Lib.hid rfl⟩
      case round =>
        obtain ⟨k, m, hk, rfl, rfl, Hm⟩ := hrel
        by_cases hlt : k < xt.size
        · have hm : m < 281474976710656 := by
            rw [Hm.out]
            have h1 := bval_lt (xt.data.toList.take k)
            rw [List.length_take] at h1
            exact Nat.lt_of_lt_of_le h1 (Nat.le_trans (Nat.pow_le_pow_right (by omega) (show min k xt.data.toList.length ≤ 6 by omega)) (by decide))
          have hx := xt[k].toNat_lt
          have hcell := HC3.out k hlt
          have hki : (k : Int) < (xt.size : Int) := by omega
          have hki2 : 0 ≤ (k : Int) ∧ (k : Int) < (xt.size : Int) := by omega
          have hw1 : IntKind.i64.wrap (256 * (m : Int)) = 256 * (m : Int) := by rw [IntKind.wrap_i64]; omega
          have hw2 : IntKind.i64.wrap (256 * (m : Int) + (xt[k].toNat : Int)) = 256 * (m : Int) + (xt[k].toNat : Int) := by rw [IntKind.wrap_i64]; omega
          have hw3 : IntKind.i64.wrap (xt[k].toNat : Int) = (xt[k].toNat : Int) := by rw [IntKind.wrap_i64]; omega
          have hwk : IntKind.i64.wrap ((k : Int) + 1) = (k : Int) + 1 := by rw [IntKind.wrap_i64]; omega
          have Hs := Lib.hid (show 256 * m + xt[k].toNat = bval (xt.data.toList.take (k + 1)) by rw [take_snoc xt k hlt, bval_snoc, Hm.out])
          go_wp2
          go_round
          case rel => exact ⟨k + 1, 256 * m + xt[k].toNat, by omega, by simp, by simp, Hs⟩
          case measure => simp [intOf]; omega
        · obtain rfl : k = xt.size := by omega
          have hm2 : m = D := by
            rw [Hm.out, List.take_of_length_le (by simp)]
            exact HD.out
          subst hm2
          have hki : ¬ (xt.size : Int) < (xt.size : Int) := by omega
          have hI := HI3.out
          have fx := hI.facts
          simp only [factsOf, cellsOf, Nat.zero_add, Nat.reduceAdd] at fx
          have hmx : max (m : Int) 1 = (m : Int) := by omega
          cases xn
          · have HPe := Lib.hid (show P = (P.natAbs : Int) from by
              have := of_decide_eq_false HG.out.symm
              omega)
            generalize P.natAbs = Q at HPe hnb ⊢
            clear HG HN HC3 HI3
            go_wp2
            refine bodyPost_ret (results_tmp2 rfl _ _ _) rfl ?_
            rw [HPe.out]
            exact ⟨rfl, hI.bel⟩
          · have HPe := Lib.hid (show P = -(P.natAbs : Int) from by
              have := of_decide_eq_true HG.out.symm
              omega)
            generalize P.natAbs = Q at HPe hnb ⊢
            have hwn : IntKind.i64.wrap (-(Q : Int)) = -(Q : Int) := by rw [IntKind.wrap_i64]; omega
            clear HG HN HC3 HI3
            go_wp2
            refine bodyPost_ret (results_tmp2 rfl _ _ _) rfl ?_
            rw [HPe.out]
            exact ⟨rfl, hI.bel⟩
end Go.Proofs.YtnnbnecpcppkdaaDoor
