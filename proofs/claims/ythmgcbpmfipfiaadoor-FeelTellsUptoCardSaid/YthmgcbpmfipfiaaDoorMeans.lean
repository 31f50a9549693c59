/- gantlaw5.means. Conditions: those typed. -/
import Derived.Test.YthmgcbpmfipfiaaDoorZero
namespace Go.Proofs.YthmgcbpmfipfiaaDoor
open Go.RowKit Go.Gy
set_option linter.unusedVariables false
def ReadsQ (w : World) (v : Value) (L : List Rat) : Prop := ∃ A n c, v = .slice A n c ∧ L.length = n ∧ n ≤ c ∧ Rd w w.heap.size 3 A n ((L.map toQ3).flatMap encQ)
theorem ReadsQ.of_row {w : World} {base n : Nat} {v : Value} {r : List Rat} (h : w.ownsRow base 27 3 v n (rowQ r)) : ReadsQ w v r := by
  obtain ⟨A, n', c, rfl, h1, h2, _, h3⟩ := SlQ.row h
  exact ⟨A, n', c, rfl, by rw [← h1, List.length_map], h2, h3⟩
def ZPost (L : List Rat) (N : Nat) (w' : World) (vz : Value) (f : Int) : Prop := (N ≤ L.length ∧ f = 0 ∧ ReadsQ w' vz (L.map (· - meanV L N (N - 1)))) ∨ (L.length < N ∧ f = 1 ∧ vz = .slice none 0 0)
/-- the outer loop -/
def M1Rel (w : World) (n : Nat) (i : Value) (wr : World) : Prop := ∃ k : Nat, k ≤ n ∧ i = .int .i64 k ∧ In w [] wr
def SmRel (w : World) (g k cnt : Nat) (rwin : List Rat) (B : Nat) (many c : Value) (wr : World) : Prop := ∃ (j : Nat) (s : Q3), j ≤ cnt ∧ many = .int .i64 j ∧ c = .int .i64 ((k : Int) - j) ∧ s.q = sumL (rwin.take j) ∧ s.can ∧ s.le (8 + j * (B + 1)) ∧ In w [(g, 27, #[.bool s.neg, .string s.num, .string s.den])] wr
set_option maxRecDepth 100000 in
set_option maxHeartbeats 8000000 in
theorem means_any (w : World) (v : Value) (l : List Q3) (h : Int) {B : Nat} (hv : SlQ w w.heap.size v l) (hl : ∀ x ∈ l, x.le B) (hB : 1 ≤ B ∧ B ≤ 134217728) (hh : h ≤ 9223372036854775807) (hn : l.length ≤ 1000) (hT : TabW w) :
    Calls Tryd.prog 41 #[v, .int .i64 h] w fun e w' => e = .returned (.bool true) ∧ Below w.heap.size w w' := by
  have HT := Lib.hid hT
  have HV := Lib.hid hv
  by_cases h1 : h < 1
  · have HM := Lib.hid (mean_bad w v h h1)
    have HZ := Lib.hid (fun W hW => zero_bad W v l h ((HV.out.below hW).more (hW : Below w.heap.size w W).size) (.inl h1))
    have hI := In.start w
    clear hv hT
    go_enter Tryd.func41, Tryd.ntmps41
    go_wp2_with fail
    refine HM.out.mono ?_
    rintro e w1 ⟨rfl, hb⟩
    replace hI := hI.call hb
    clear hb HM
    go_wp2_with fail
    refine (HZ.out _ hI.bel).mono ?_
    rintro e wn ⟨rfl, hb⟩
    replace hI := hI.call hb
    clear hb
    go_wp2
    go_ret
    exact ⟨rfl, hI.bel⟩
  · obtain ⟨N, hN⟩ : ∃ N : Nat, h = N := ⟨h.toNat, by omega⟩
    subst hN
    have hN1 : 1 ≤ N := by omega
    have HM := Lib.hid (mean_ok w v l (N : Int) hv hl hB (by omega) hn hT)
    rw [Int.toNat_natCast] at HM
    obtain ⟨A, n, c, rfl, hln, hnc, hA, hrd⟩ := HV.out
    subst hln
    have HRD := Lib.hid hrd
    obtain ⟨L, hL⟩ : ∃ L, L = l.map Q3.q := ⟨_, rfl⟩
    have HLl := Lib.hid (show L.length = l.length by rw [hL, List.length_map])
    have HML := Lib.hid (show ∀ j, L[j]? = (l[j]?).map Q3.q from fun j => by rw [hL]; exact List.getElem?_map)
    have HBL := Lib.hid (show ∀ x ∈ L, qz x ≤ B from fun x hx => by
      rw [hL] at hx
      obtain ⟨y, hy, rfl⟩ := List.mem_map.1 hx
      exact (hl y hy).qz hB.1)
    rw [← hL] at HM
    have HL := Lib.hid hL
    clear hv hT hrd hL
    go_enter Tryd.func41, Tryd.ntmps41
    go_wp2_with fail
    refine HM.out.mono ?_
    rintro e w1 ⟨vm, rfl, hown, hb1⟩
    have HRM := Lib.hid (ReadsQ.of_row hown)
    have HB1 := Lib.hid hb1
    clear hown HM hb1
    have HZ := Lib.hid (show Calls Tryd.prog 31 #[.slice A l.length c, .int .i64 (N : Int)] w1 fun e w' => ∃ vz f, e = .returned (.tuple #[vz, .int .i64 f]) ∧ ZPost L N w' vz f ∧ Below w1.heap.size w1 w' from by
      have hvv := (HV.out.below HB1.out).more HB1.out.size
      by_cases hNl : N ≤ l.length
      · refine (zero_ok w1 _ l N hvv hl hB ⟨hN1, hNl⟩ hn (tabs w HT.out HB1.out)).mono ?_
        rintro e w' ⟨vz, rfl, ho, hb⟩
        refine ⟨vz, 0, rfl, .inl ⟨by rw [HLl.out]; exact hNl, rfl, ?_⟩, hb⟩
        have h := ReadsQ.of_row ho
        rw [List.map_take, ← HL.out, meanV_take _ hN1] at h
        exact h
      · refine (zero_bad w1 _ l N hvv (.inr (by omega))).mono ?_
        rintro e w' ⟨rfl, hb⟩
        exact ⟨_, 1, rfl, .inr ⟨by rw [HLl.out]; omega, rfl, rfl⟩, hb⟩)
    go_wp2_with fail
    refine HZ.out.mono ?_
    rintro e w2 ⟨vz, f, rfl, hz, hb2⟩
    have HZP := Lib.hid hz
    obtain ⟨Am, nm, cm, rfl, hnm, hmc, hrm⟩ := HRM.out
    have hnm2 : nm = l.length := by rw [← hnm]; unfold meansL; rw [List.length_map, List.length_range]
    subst hnm2
    have HRDM := Lib.hid ((hrm.below hb2).more hb2.size)
    have HB2 := Lib.hid (HB1.out.trans (hb2.mono HB1.out.size))
    have HT2 := Lib.hid (tabs w HT.out HB2.out)
    have hst := Lib.hid (show M1Rel w2 l.length (.int .i64 0) w2 from ⟨0, Nat.zero_le _, rfl, In.start w2⟩)
    have hN2 : ¬ (N : Int) < 1 := by omega
    clear HZ HRM hz hnm hrm hb2 h1
    go_wp2_with fail
    go_loopw [54] (fun i wr => M1Rel w2 l.length i wr) (fun i _ => l.length - (intOf i).toNat)
    case atStart => exact hst.out
    case round =>
      clear hst
      obtain ⟨k, hk, rfl, hI⟩ := hrel
      obtain ⟨wo, rfl⟩ : ∃ wo, wo = wr := ⟨_, rfl⟩
      by_cases hkn : k < l.length
      · have hki : (k : Int) < (l.length : Int) := by omega
        obtain ⟨cnt, hcnt⟩ : ∃ cnt : Nat, cnt = k + 1 - (k + 1 - N) := ⟨_, rfl⟩
        have hc1 : cnt ≤ k + 1 ∧ cnt ≤ N ∧ 1 ≤ cnt ∧ (cnt = k + 1 ∨ cnt = N) := by omega
        obtain ⟨rw_, hrw⟩ : ∃ r, r = (winL L N k).reverse := ⟨_, rfl⟩
        have HRG := Lib.hid (show ∀ j, j < cnt → rw_[j]? = L[k - j]? from fun j hj => by rw [hrw]; exact rwin_get (by rw [HLl.out]; exact hkn) (by rw [← hcnt]; exact hj))
        have HRL := Lib.hid (show rw_.length = cnt by rw [hrw, List.length_reverse, winL_length (by rw [HLl.out]; exact hkn), hcnt])
        have HSU := Lib.hid (show meanV L N k * ((cnt : Int) : Rat) = sumL rw_ by rw [hrw, sumL_rev, hcnt]; exact mean_mul hN1)
        clear hcnt hrw
        obtain ⟨z0, q0, cz0, l0, O0⟩ := ofR w2 HT2.out 0
        go_wp2_with fail
        refine (O0.out _ hI.bel).mono ?_
        rintro e wn ⟨rfl, hb⟩
        replace hI := hI.call hb
        clear hb
        replace hI := hI.alloc 27 #[.bool z0.neg, .string z0.num, .string z0.den]
        obtain ⟨g, hg⟩ : ∃ g, g = wn.heap.size := ⟨_, rfl⟩
        rw [← hg] at hI
        have hst2 := Lib.hid (show SmRel w2 g k cnt rw_ B (.int .i64 0) (.int .i64 (k : Int)) _ from ⟨0, z0, Nat.zero_le _, rfl, by simp, by rw [q0]; rfl, cz0, l0.more (by omega), hI⟩)
        go_wp2_with fail
        rw [← hg]
        generalize World.alloc _ _ = W1 at hI hst2 ⊢
        clear hg hI
        go_loopw [11, 12] (fun many c wx => SmRel w2 g k cnt rw_ B many c wx) (fun many _ _ => cnt - (intOf many).toNat)
        case atStart => exact hst2.out
        case round =>
          clear hst2
          obtain ⟨j, s, hj, rfl, rfl, hs, hsc, hsl, hJ⟩ := hrel
          by_cases hjn : j < cnt
          · have c1 : (k : Int) - (j : Int) ≥ 0 := by omega
            have c2 : (j : Int) < (N : Int) := by omega
            obtain ⟨ix, hix⟩ : ∃ ix : Nat, (k : Int) - (j : Int) = ix := ⟨k - j, by omega⟩
            have hixe : ix = k - j := by omega
            have hixn : 0 ≤ (ix : Int) ∧ (ix : Int) < (l.length : Int) := by omega
            obtain ⟨x, hx⟩ : ∃ x, l[k - j]? = some x := ⟨_, List.getElem?_eq_getElem (by omega)⟩
            obtain ⟨b, o, rfl, hbB, e0, e1, e2⟩ := Rd.quot HRD.out hx
            rw [← hixe] at e0 e1 e2
            have hxo : x.le B := hl x (List.mem_of_getElem? hx)
            have hjB : j * (B + 1) ≤ 1000 * (B + 1) := Nat.mul_le_mul_right _ (by omega)
            obtain ⟨s', qs', cs', ls', AD⟩ := addR w2 HT2.out s x hsl hxo
            have hsum : s'.q = sumL (rw_.take (j + 1)) := by
              rw [qs', hs, sumL_take_succ (show rw_[j]? = some x.q by rw [HRG.out j hjn, HML.out, hx]; rfl)]
            have hsl' : s'.le (8 + (j + 1) * (B + 1)) := ls'.more (by rw [Nat.add_mul]; omega)
            have hb2 : b < w2.heap.size := Nat.lt_of_lt_of_le hbB HB2.out.size
            have E := Lib.hid (fun W (hW : Below w2.heap.size w2 W) => (⟨((HB2.out.trans (hW.mono HB2.out.size)).cell (p := ⟨b, o + ix * 3, none⟩) hbB).trans e0, ((HB2.out.trans (hW.mono HB2.out.size)).cell (p := ⟨b, o + ix * 3 + 1, none⟩) hbB).trans e1, ((HB2.out.trans (hW.mono HB2.out.size)).cell (p := ⟨b, o + ix * 3 + 2, none⟩) hbB).trans e2⟩ : And _ (And _ _)))
            have hw1 : IntKind.i64.wrap ((j : Int) + 1) = (j : Int) + 1 := by rw [IntKind.wrap_i64]; omega
            have hw2 : IntKind.i64.wrap ((ix : Int) - 1) = (ix : Int) - 1 := by rw [IntKind.wrap_i64]; omega
            have HN := Lib.hid (show ∀ W, In w2 [(g, 27, #[.bool s'.neg, .string s'.num, .string s'.den])] W → SmRel w2 g k cnt rw_ B (.int .i64 ((j : Int) + 1)) (.int .i64 ((ix : Int) - 1)) W from fun W hW => ⟨j + 1, s', by omega, by simp, by rw [← hix]; congr 1; omega, hsum, cs', hsl', hW⟩)
            rw [hix] at c1 ⊢
            clear hs hsl qs' ls' hsum hsl' e0 e1 e2 hx hjB hix hixe cs'
            go_upto_region 14 with (fail)
            refine wp_region_in_tail 6 hJ (by kernel_rfl) (by kernel_rfl) ?_
            simp only [List.take_succ_cons, List.take_zero, List.drop_succ_cons, List.drop_zero]
            repeat (first
              | (refine wpSeq_off (by rfl) ?_; try simp only [Act.put, List.setIfInBounds_toArray, List.set_cons_zero, List.set_cons_succ])
              | (refine wpSeq_val (v := ?_) (by rfl) (fun W hS => ?_) ?_
                 rotate_left
                 · (have fx := hS.facts; simp only [factsOf, cellsOf, Nat.zero_add, Nat.reduceAdd] at fx; have fy0 := E.out W hS.bel; clear hS; go_simp; first | done | with_reducible rfl)
                 try simp only [Act.put, List.setIfInBounds_toArray, List.set_cons_zero, List.set_cons_succ]))
            refine wpSeq_call (v := .agg #[.bool s'.neg, .string s'.num, .string s'.den]) (by rfl) (fun W hS => ?_) (fun W hS => (AD.out W hS.bel)) ?_
            · (clear hS; go_simp; done)
            try simp only [Act.put, List.setIfInBounds_toArray, List.set_cons_zero, List.set_cons_succ]
            repeat (first
              | (refine wpSeq_off (by rfl) ?_; try simp only [Act.put, List.setIfInBounds_toArray, List.set_cons_zero, List.set_cons_succ])
              | (refine wpSeq_val (v := ?_) (by rfl) (fun W hS => ?_) ?_
                 rotate_left
                 · (have fx := hS.facts; simp only [factsOf, cellsOf, Nat.zero_add, Nat.reduceAdd] at fx; clear hS; go_simp; first | done | with_reducible rfl)
                 try simp only [Act.put, List.setIfInBounds_toArray, List.set_cons_zero, List.set_cons_succ]))
            refine wpSeq_nil (fun W hS => ?_)
            have fx := hS.facts
            simp only [factsOf, cellsOf, Nat.zero_add, Nat.reduceAdd] at fx
            have hz := fun i => hS.free (k := 0) (i := i) rfl
            have HX := Lib.hid (HN.out _ (hS.all3 (a := []) (.bool s'.neg) (.string s'.num) (.string s'.den)))
            clear hS hJ
            go_wp2_with fail
            go_roundw
            case rel => exact HX.out
            case measure => simp [intOf]; omega
          · obtain rfl : j = cnt := by omega
            have hsm : s.q = sumL rw_ := by rw [hs, List.take_of_length_le (by rw [HRL.out]; exact Nat.le_refl _)]
            have hgm : ((meansL L N l.length).map toQ3)[k]? = some (toQ3 (meanV L N k)) := by rw [List.getElem?_map, meansL_get hkn]; rfl
            obtain ⟨bm, om, rfl, hbm, e0, e1, e2⟩ := Rd.quot HRDM.out hgm
            obtain ⟨zm, hzm⟩ : ∃ z, z = toQ3 (meanV L N k) := ⟨_, rfl⟩
            have hzq : zm.q = meanV L N k := by rw [hzm]; exact toQ3_q _
            have hzl : zm.le 274877906944 := by
              rw [hzm]
              refine toQ3_le (Nat.le_trans (meanV_qz HBL.out (by rw [HLl.out]; exact hkn) (by rw [HLl.out]; exact hn)) ?_)
              omega
            rw [← hzm] at e0 e1 e2
            have E := Lib.hid (fun W (hW : Below w2.heap.size w2 W) => (⟨(hW.cell (p := ⟨bm, om + k * 3, none⟩) hbm).trans e0, (hW.cell (p := ⟨bm, om + k * 3 + 1, none⟩) hbm).trans e1, (hW.cell (p := ⟨bm, om + k * 3 + 2, none⟩) hbm).trans e2⟩ : And _ (And _ _)))
            obtain ⟨zc, qc, _, lc, OC⟩ := ofR w2 HT2.out (j : Int) (by omega)
            obtain ⟨p, qp, cp, _, MU⟩ := mulR w2 HT2.out zm zc hzl lc
            obtain rfl : p = s := cp.eq hsc (by rw [qp, hzq, qc, hsm]; exact HSU.out)
            have hki2 : 0 ≤ (k : Int) ∧ (k : Int) < (l.length : Int) := by omega
            have hwk : IntKind.i64.wrap ((k : Int) + 1) = (k : Int) + 1 := by rw [IntKind.wrap_i64]; omega
            have HN := Lib.hid (show ∀ W, In w2 [(g, 27, #[.bool p.neg, .string p.num, .string p.den])] W → M1Rel w2 l.length (.int .i64 ((k : Int) + 1)) W from fun W hW => ⟨k + 1, hkn, by simp, hW.tail⟩)
            have hway : ((k : Int) - (j : Int) ≥ 0 ∧ ¬ (j : Int) < (N : Int)) ∨ ¬ (k : Int) - (j : Int) ≥ 0 := by omega
            clear hs hsm hzm hzq hzl qc qp cp hsc e0 e1 e2 hgm hc1 hj hsl
            rcases hway with ⟨hy1, hy2⟩ | hy1
            all_goals
              go_upto_region 16 with (fail)
              refine wp_region_in hJ (by kernel_rfl) (by kernel_rfl) ?_
              repeat (first
                | (refine wpSeq_off (by rfl) ?_; try simp only [Act.put, List.setIfInBounds_toArray, List.set_cons_zero, List.set_cons_succ])
                | (refine wpSeq_val (v := ?_) (by rfl) (fun W hS => ?_) ?_
                   rotate_left
                   · (have fx := hS.facts; simp only [factsOf, cellsOf, Nat.zero_add, Nat.reduceAdd] at fx; have fy0 := E.out W hS.bel; clear hS; go_simp; first | done | with_reducible rfl)
                   try simp only [Act.put, List.setIfInBounds_toArray, List.set_cons_zero, List.set_cons_succ]))
              refine wpSeq_call (v := .agg #[.bool zc.neg, .string zc.num, .string zc.den]) (by rfl) (fun W hS => ?_) (fun W hS => (OC.out W hS.bel)) ?_
              · (clear hS; go_simp; done)
              try simp only [Act.put, List.setIfInBounds_toArray, List.set_cons_zero, List.set_cons_succ]
              repeat (first
                | (refine wpSeq_off (by rfl) ?_; try simp only [Act.put, List.setIfInBounds_toArray, List.set_cons_zero, List.set_cons_succ])
                | (refine wpSeq_val (v := ?_) (by rfl) (fun W hS => ?_) ?_
                   rotate_left
                   · (have fx := hS.facts; simp only [factsOf, cellsOf, Nat.zero_add, Nat.reduceAdd] at fx; clear hS; go_simp; first | done | with_reducible rfl)
                   try simp only [Act.put, List.setIfInBounds_toArray, List.set_cons_zero, List.set_cons_succ]))
              refine wpSeq_call (v := .agg #[.bool p.neg, .string p.num, .string p.den]) (by rfl) (fun W hS => ?_) (fun W hS => (MU.out W hS.bel)) ?_
              · (clear hS; go_simp; done)
              try simp only [Act.put, List.setIfInBounds_toArray, List.set_cons_zero, List.set_cons_succ]
              repeat (first
                | (refine wpSeq_off (by rfl) ?_; try simp only [Act.put, List.setIfInBounds_toArray, List.set_cons_zero, List.set_cons_succ])
                | (refine wpSeq_val (v := ?_) (by rfl) (fun W hS => ?_) ?_
                   rotate_left
                   · (have fx := hS.facts; simp only [factsOf, cellsOf, Nat.zero_add, Nat.reduceAdd] at fx; clear hS; go_simp; first | done | with_reducible rfl)
                   try simp only [Act.put, List.setIfInBounds_toArray, List.set_cons_zero, List.set_cons_succ]))
              refine wpSeq_nil (fun W hS => ?_)
              have HX := Lib.hid (HN.out _ hS)
              clear hS hJ HN
              go_wp2_with fail
              go_roundw
              case rel => exact HX.out
              case measure => simp [intOf]; omega
      · obtain rfl : k = l.length := by omega
        have hki : ¬ (l.length : Int) < (l.length : Int) := by omega
        rcases HZP.out with ⟨hNl, rfl, hrz⟩ | ⟨hNl, rfl, rfl⟩
        · have hg : ¬ (N : Int) > (l.length : Int) := by rw [HLl.out] at hNl; omega
          have Hrz := Lib.hid hrz
          clear hrz HZP
          obtain ⟨Az, nz, cz, rfl, hnz, hzc, hrzz⟩ := Hrz.out
          have hnz2 : nz = l.length := by rw [← hnz, List.length_map, HLl.out]
          subst hnz2
          have HRZ := Lib.hid hrzz
          obtain ⟨M, rfl⟩ : ∃ M, N = M + 1 := ⟨N - 1, by omega⟩
          have hM1 : (M : Int) < (M : Int) + 1 := by omega
          have hbM : 0 ≤ (M : Int) ∧ (M : Int) < (l.length : Int) := by rw [HLl.out] at hNl; omega
          have hwM : IntKind.i64.wrap (M : Int) = (M : Int) := by rw [IntKind.wrap_i64]; omega
          have hgm : ((meansL L (M + 1) l.length).map toQ3)[M]? = some (toQ3 (meanV L (M + 1) M)) := by rw [List.getElem?_map, meansL_get (by omega)]; rfl
          obtain ⟨bm, om, rfl, hbm, e0, e1, e2⟩ := Rd.quot HRDM.out hgm
          obtain ⟨zm, hzm⟩ : ∃ z, z = toQ3 (meanV L (M + 1) M) := ⟨_, rfl⟩
          have hzq : zm.q = meanV L (M + 1) M := by rw [hzm]; exact toQ3_q _
          have hzl : zm.le 274877906944 := by
            rw [hzm]
            refine toQ3_le (Nat.le_trans (meanV_qz HBL.out (by rw [HLl.out]; omega) (by rw [HLl.out]; exact hn)) ?_)
            omega
          rw [← hzm] at e0 e1 e2
          have EM := Lib.hid (fun W (hW : Below w2.heap.size w2 W) => (⟨(hW.cell (p := ⟨bm, om + M * 3, none⟩) hbm).trans e0, (hW.cell (p := ⟨bm, om + M * 3 + 1, none⟩) hbm).trans e1, (hW.cell (p := ⟨bm, om + M * 3 + 2, none⟩) hbm).trans e2⟩ : And _ (And _ _)))
          have Hzq := Lib.hid hzq
          have hst := Lib.hid (show M1Rel w2 l.length (.int .i64 0) wo from ⟨0, Nat.zero_le _, rfl, hI⟩)
          clear hI hnz hrzz hgm hzm hzq e0 e1 e2 hNl hh hN1
          go_wp2_with fail
          go_loopw [108] (fun i wr => M1Rel w2 l.length i wr) (fun i _ => l.length - (intOf i).toNat)
          case atStart => exact hst.out
          case round =>
            clear hst
            obtain ⟨k, hk, rfl, hJ⟩ := hrel
            by_cases hkn : k < l.length
            · have hki : (k : Int) < (l.length : Int) := by omega
              have hki2 : 0 ≤ (k : Int) ∧ (k : Int) < (l.length : Int) := by omega
              obtain ⟨x, hx⟩ : ∃ x, l[k]? = some x := ⟨_, List.getElem?_eq_getElem hkn⟩
              obtain ⟨b, o, rfl, hbB, e0, e1, e2⟩ := Rd.quot HRD.out hx
              have hxo : x.le B := hl x (List.mem_of_getElem? hx)
              have hb2 : b < w2.heap.size := Nat.lt_of_lt_of_le hbB HB2.out.size
              have d0 := (hJ.old (o := o + k * 3) hb2).trans ((HB2.out.cell (p := ⟨b, o + k * 3, none⟩) hbB).trans e0)
              have d1 := (hJ.old (o := o + k * 3 + 1) hb2).trans ((HB2.out.cell (p := ⟨b, o + k * 3 + 1, none⟩) hbB).trans e1)
              have d2 := (hJ.old (o := o + k * 3 + 2) hb2).trans ((HB2.out.cell (p := ⟨b, o + k * 3 + 2, none⟩) hbB).trans e2)
              have hbn : b < wr.heap.size := Nat.lt_of_lt_of_le hb2 hJ.bel.size
              have hgz : ((L.map (· - meanV L (M + 1) (M + 1 - 1))).map toQ3)[k]? = some (toQ3 (x.q - meanV L (M + 1) M)) := by
                rw [List.getElem?_map, List.getElem?_map, HML.out, hx]; rfl
              obtain ⟨bz, oz, rfl, hbz, f0, f1, f2⟩ := Rd.quot HRZ.out hgz
              obtain ⟨zz, hzz⟩ : ∃ z, z = toQ3 (x.q - meanV L (M + 1) M) := ⟨_, rfl⟩
              have hzzq : zz.q = x.q - meanV L (M + 1) M := by rw [hzz]; exact toQ3_q _
              have hzzc : zz.can := by rw [hzz]; exact toQ3_can _
              rw [← hzz] at f0 f1 f2
              have EZ := Lib.hid (fun W (hW : Below w2.heap.size w2 W) => (⟨(hW.cell (p := ⟨bz, oz + k * 3, none⟩) hbz).trans f0, (hW.cell (p := ⟨bz, oz + k * 3 + 1, none⟩) hbz).trans f1, (hW.cell (p := ⟨bz, oz + k * 3 + 2, none⟩) hbz).trans f2⟩ : And _ (And _ _)))
              obtain ⟨d, qd, cd, _, SU⟩ := subR w2 HT2.out x zm (hxo.more (show B ≤ 274877906944 by omega)) hzl
              obtain rfl : d = zz := cd.eq hzzc (by rw [qd, hzzq, Hzq.out])
              have hwk : IntKind.i64.wrap ((k : Int) + 1) = (k : Int) + 1 := by rw [IntKind.wrap_i64]; omega
              have HN := Lib.hid (show ∀ W, In w2 [(wr.heap.size, 27, #[.bool x.neg, .string x.num, .string x.den])] W → M1Rel w2 l.length (.int .i64 ((k : Int) + 1)) W from fun W hW => ⟨k + 1, hkn, by simp, hW.tail⟩)
              replace hJ := hJ.alloc 27 #[.bool x.neg, .string x.num, .string x.den]
              clear e0 e1 e2 f0 f1 f2 hgz hzz hzzq hzzc qd cd hx
              go_upto_region 26 with (fail)
              clear d0 d1 d2
              generalize World.alloc _ _ = W1 at hJ ⊢
              refine wp_region_in hJ (by kernel_rfl) (by kernel_rfl) ?_
              repeat (first
                | (refine wpSeq_off (by rfl) ?_; try simp only [Act.put, List.setIfInBounds_toArray, List.set_cons_zero, List.set_cons_succ])
                | (refine wpSeq_val (v := ?_) (by rfl) (fun W hS => ?_) ?_
                   rotate_left
                   · (have fx := hS.facts; simp only [factsOf, cellsOf, Nat.zero_add, Nat.reduceAdd] at fx; have fy0 := EZ.out W hS.bel; have fy1 := EM.out W hS.bel; clear hS; go_simp; first | done | with_reducible rfl)
                   try simp only [Act.put, List.setIfInBounds_toArray, List.set_cons_zero, List.set_cons_succ]))
              refine wpSeq_call (v := .agg #[.bool d.neg, .string d.num, .string d.den]) (by rfl) (fun W hS => ?_) (fun W hS => (SU.out W hS.bel)) ?_
              · (clear hS; go_simp; done)
              try simp only [Act.put, List.setIfInBounds_toArray, List.set_cons_zero, List.set_cons_succ]
              repeat (first
                | (refine wpSeq_off (by rfl) ?_; try simp only [Act.put, List.setIfInBounds_toArray, List.set_cons_zero, List.set_cons_succ])
                | (refine wpSeq_val (v := ?_) (by rfl) (fun W hS => ?_) ?_
                   rotate_left
                   · (have fx := hS.facts; simp only [factsOf, cellsOf, Nat.zero_add, Nat.reduceAdd] at fx; clear hS; go_simp; first | done | with_reducible rfl)
                   try simp only [Act.put, List.setIfInBounds_toArray, List.set_cons_zero, List.set_cons_succ]))
              refine wpSeq_nil (fun W hS => ?_)
              have HX := Lib.hid (HN.out _ hS)
              clear hS hJ HN
              go_wp2_with fail
              go_roundw
              case rel => exact HX.out
              case measure => simp [intOf]; omega
            · obtain rfl : k = l.length := by omega
              have hki : ¬ (l.length : Int) < (l.length : Int) := by omega
              have hfin := HB2.out.trans (hJ.bel.mono HB2.out.size)
              clear hJ
              go_wp2
              go_ret
              exact ⟨rfl, hfin⟩
        · have hg : (N : Int) > (l.length : Int) := by rw [HLl.out] at hNl; omega
          have hfin := HB2.out.trans (hI.bel.mono HB2.out.size)
          clear hI HZP hNl
          go_wp2
          go_ret
          exact ⟨rfl, hfin⟩
end Go.Proofs.YthmgcbpmfipfiaaDoor
