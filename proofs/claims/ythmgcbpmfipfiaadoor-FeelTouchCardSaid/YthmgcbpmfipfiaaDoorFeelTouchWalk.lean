/- FeelTouch: the walk. Conditions: those typed. -/
import Derived.Test.YthmgcbpmfipfiaaDoorTouch
import Derived.Test.YthmgcbpmfipfiaaDoorReadings
namespace Go.Proofs.YthmgcbpmfipfiaaDoor.feelTouch
open Go.RowKit Go.Gy
set_option linter.unusedVariables false
theorem wf_i64 {n : Int} (h : wfI .i64 n) : -9223372036854775808 ≤ n ∧ n ≤ 9223372036854775807 := by
  simpa [wfI, Lit.wf, IntKind.min, IntKind.max, IntKind.signed, IntKind.bits] using h
def OutRel (w : World) (h : Int) (L : List Rat) (n : Nat) (last i : Value) (wr : World) : Prop :=
  ∃ (k : Nat) (la : Int), k ≤ n ∧ i = .int .i64 k ∧ last = .int .i64 la ∧ -1 ≤ la ∧ la + (stT 1 2 h L k).2 < k ∧ In w [] wr
def InRel (w : World) (h : Int) (i : Nat) (c : Value) (wr : World) : Prop :=
  ∃ j : Nat, (i : Int) + 1 - h ≤ j ∧ j ≤ i + 1 ∧ c = .int .i64 j ∧ In w [] wr
set_option maxRecDepth 100000 in
set_option maxHeartbeats 8000000 in
theorem walk (v0 : Value) (a : Int) (w : World) {b0 : Nat} (f0 : IntsArg w v0 b0) (wa : wfI .i64 a) (hT : TabW w) :
    Calls Tryd.prog 4 #[v0, .int .i64 a] w fun e w' => e = .returned (.bool true) ∧ Below w.heap.size w w' := by
  obtain ⟨r, hl, hi, _, _⟩ := f0
  have HT := Lib.hid hT
  have HF := feels_any w hT
  have Hl := Lib.hid hl
  have Hi := Lib.hid hi
  clear hl hi wa hT
  have hm1 := Int.emod_nonneg a (b := 5) (by omega)
  have hm2 := Int.emod_lt_of_pos a (b := 5) (by omega)
  obtain ⟨q, hq⟩ : ∃ q, a % 5 = q := ⟨_, rfl⟩
  have E4 := Lib.hid (fun W => below_any a 5 W (by omega) (by omega))
  rw [hq] at E4 hm1 hm2
  go_enter Tryd.func4, Tryd.ntmps4
  go_wp2_with fail
  refine HF.mono ?_
  rintro e w1 ⟨rfl, hb1⟩
  go_wp2_with fail
  refine (readings_any w1 v0 r ((Hl.out.below hb1).more hb1.size) Hi.out).mono ?_
  rintro e w2 ⟨v, rfl, hown, hb2⟩
  have hB := hb1.trans (hb2.mono hb1.size)
  have HT2 := Lib.hid (tabs w HT.out hB)
  have hv : SlQ w2 w2.heap.size v ((readM r).map toQ3) := SlQ.own hown
  have hlo : ∀ x ∈ (readM r).map toQ3, x.le 1 := by
    intro x hx
    obtain ⟨q, hq, rfl⟩ := List.mem_map.1 hx
    obtain ⟨z, _, rfl⟩ := List.mem_map.1 hq
    exact toQ3_le (ratM_small z)
  have hll : ((readM r).map toQ3).length ≤ 40 := by
    unfold readM
    rw [List.length_map, List.length_map, List.length_take]
    omega
  obtain ⟨L, hL⟩ : ∃ L, L = (readM r).map toQ3 := ⟨_, rfl⟩
  rw [← hL] at hv hlo hll
  obtain ⟨z1, q1, _, l1, O1⟩ := ofR w2 HT2.out 1
  obtain ⟨z2, q2, _, l2, O2⟩ := ofR w2 HT2.out 2
  clear hown hb1 hb2 HF Hl Hi hL hq
  have hI := In.start w2
  obtain ⟨h, hh⟩ : ∃ h, h = 1 + q := ⟨_, rfl⟩
  have hwq : IntKind.i64.wrap (1 + q) = h := by rw [IntKind.wrap_i64]; omega
  have h5 : 1 ≤ h ∧ h ≤ 5 := by omega
  clear hm1 hm2 hh
  go_wp2_with fail
  refine (E4.out _).mono ?_
  rintro e w3 ⟨rfl, rfl⟩
  go_wp2_with fail
  refine (O1.out _ hI.bel).mono ?_
  rintro e wn ⟨rfl, hb⟩
  replace hI := hI.call hb
  clear hb
  go_wp2_with fail
  refine (O2.out _ hI.bel).mono ?_
  rintro e wn ⟨rfl, hb⟩
  replace hI := hI.call hb
  clear hb
  go_wp2_with fail
  refine (touch_ok wn v L z1 z2 h ((hv.below hI.bel).more hI.bel.size) (fun x hx => (hlo x hx).more (by decide)) (l1.more (by decide)) (l2.more (by decide)) (by omega) (by rw [q1, q2]; decide) (by omega) (tabs w2 HT2.out hI.bel)).mono ?_
  rintro e w4 ⟨v', rfl, hown, hb⟩
  replace hI := hI.call hb
  rw [q1, q2] at hown
  obtain ⟨A', c', rfl, hnc', _, hrd'⟩ := own_rd hown
  have hB4 := hB.trans (hI.bel.mono hB.size)
  have HT4 := Lib.hid (tabs w2 HT2.out hI.bel)
  have HRD' := Lib.hid hrd'
  have HSZ := hI.bel.size
  have HB24 := Lib.hid hI.bel
  obtain ⟨A, n, c, rfl, hln, hnc, hA, hrd⟩ := hv
  have HRD := Lib.hid hrd
  have HM := Lib.hid (show ∀ j, (L.map Q3.q)[j]? = (L[j]?).map Q3.q from fun j => List.getElem?_map)
  have hLl : (L.map Q3.q).length = n := by rw [List.length_map, hln]
  subst hln
  clear hb hown hrd hrd' hI O1 O2
  obtain ⟨z1, q1, _, l1, O1⟩ := ofR w4 HT4.out 1
  obtain ⟨z2, q2, _, l2, O2⟩ := ofR w4 HT4.out 2
  have hst := Lib.hid (show OutRel w4 h (L.map Q3.q) L.length (.int .i64 (-1)) (.int .i64 0) w4 from ⟨0, -1, Nat.zero_le _, rfl, rfl, by omega, by rw [stT_zero]; simp, In.start w4⟩)
  go_wp2_with fail
  go_loopw [8, 40] (fun last i wr => OutRel w4 h (L.map Q3.q) L.length last i wr) (fun _ i _ => L.length - (intOf i).toNat)
  case atStart => exact hst.out
  case round =>
    clear hst
    obtain ⟨k, la, hk, rfl, rfl, hla, hmla, hI⟩ := hrel
    by_cases hkn : k < L.length
    · have hki : (k : Int) < (L.length : Int) := by omega
      have hki2 : 0 ≤ (k : Int) ∧ (k : Int) < (L.length : Int) := by omega
      obtain ⟨b, o, u, rfl, hbB, hu, hcu⟩ := HRD'.out.at_ hkn
      rw [List.getElem?_map, outT_get hkn] at hu
      cases hu
      have hwas : 0 < k → wr.cell? ⟨b, o + (k - 1), none⟩ = some (.bool (stT 1 2 h (L.map Q3.q) k).1) := fun h0 => by
        obtain ⟨b', o', u', he, _, hu', hcu'⟩ := HRD'.out.at_ (show k - 1 < L.length by omega)
        cases he
        rw [List.getElem?_map, outT_get (by omega), show k - 1 + 1 = k by omega] at hu'
        cases hu'
        exact (hI.old hbB).trans hcu'
      have hcw := (hI.old (o := o + k) hbB).trans hcu
      obtain ⟨is, his⟩ : ∃ is, is = (stT 1 2 h (L.map Q3.q) (k + 1)).1 := ⟨_, rfl⟩
      obtain ⟨was, hws⟩ : ∃ was, was = (stT 1 2 h (L.map Q3.q) k).1 := ⟨_, rfl⟩
      have hbn : b < wr.heap.size := Nat.lt_of_lt_of_le hbB hI.bel.size
      have HSAME := Lib.hid (sameT (lo := 1) (hi := 2) (hold := h) (l := L.map Q3.q) (k := k) (by rw [List.length_map]; exact hkn))
      have HFLIP := Lib.hid (flipT (lo := 1) (hi := 2) (hold := h) (by omega) (l := L.map Q3.q) (k := k) (by rw [List.length_map]; exact hkn))
      have HR := Lib.hid (stT_range 1 2 (hold := h) (by omega) (L.map Q3.q) k)
      rw [← his, ← hws] at HFLIP
      change wr.cell? ⟨b, o + k, none⟩ = some (.bool (stT 1 2 h (L.map Q3.q) (k + 1)).1) at hcw
      rw [← his] at hcw
      rw [← hws] at hwas
      have HWAS0 := Lib.hid (show k = 0 → was = false from fun h0 => by rw [hws, h0, stT_zero])
      have Hla := Lib.hid hmla
      have hw1 : IntKind.i64.wrap ((k : Int) + 1) = (k : Int) + 1 := by rw [IntKind.wrap_i64]; omega
      clear his hws hmla hcu
      go_upto_region 12 with (fail)
      go_cut [11] (fun q wx => q = .bool was ∧ In w4 [] wx)
      case first =>
        rcases Nat.eq_zero_or_pos k with hk0 | hk0
        · have hw0 := HWAS0.out hk0
          subst hw0 hk0
          clear hwas hcw
          go_wp2_with fail
          go_meet
          exact ⟨rfl, hI⟩
        · have hcp := hwas hk0
          have hk0i : (0 : Int) < (k : Int) := by omega
          clear hwas hcw
          go_wp2_with fail
          go_meet
          exact ⟨rfl, hI⟩
      case rest =>
        obtain ⟨rfl, hJ⟩ := hcut
        clear hI hwas hcw HWAS0
        by_cases hew : is = was
        · subst hew
          have HN := Lib.hid (show OutRel w4 h (L.map Q3.q) L.length (.int .i64 la) (.int .i64 ((k : Int) + 1)) wc from ⟨k + 1, la, hkn, by simp, rfl, hla, by
            have h1 := HSAME.out; have h2 := Hla.out; have h3 := HR.out
            omega, hJ⟩)
          clear HSAME HFLIP HR hJ
          cases is
          all_goals
            go_wp2_with fail
            go_roundw
            case rel => exact HN.out
            case measure => simp [intOf]; omega
        · obtain ⟨f1, f2, f3⟩ := HFLIP.out hew
          have f4 := Hla.out
          have f5 := HR.out
          have hd : ¬ (k : Int) - la < h := by omega
          have hw2 : IntKind.i64.wrap ((k : Int) - la) = (k : Int) - la := by rw [IntKind.wrap_i64]; omega
          have hw3 : IntKind.i64.wrap ((k : Int) + 1 - h) = (k : Int) + 1 - h := by rw [IntKind.wrap_i64]; omega
          have HN := Lib.hid (show ∀ W, In w4 [] W → OutRel w4 h (L.map Q3.q) L.length (.int .i64 k) (.int .i64 ((k : Int) + 1)) W from fun W hW => ⟨k + 1, k, hkn, by simp, rfl, by omega, by rw [f2]; omega, hW⟩)
          have HF3 := Lib.hid f3
          have hwb : was = !is := by cases is <;> cases was <;> simp_all
          have hbase : 0 ≤ (k : Int) + 1 - h := by omega
          obtain ⟨j0, hj0⟩ : ∃ j0 : Nat, (k : Int) + 1 - h = j0 := ⟨((k : Int) + 1 - h).toNat, by omega⟩
          have hst2 := Lib.hid (show InRel w4 h k (.int .i64 ((k : Int) + 1 - h)) wc from ⟨j0, by omega, by omega, by rw [hj0], hJ⟩)
          subst hwb
          clear f1 f2 f3 f4 f5 HSAME HFLIP HR hew Hla hj0 hJ
          cases is with
          | false =>
            go_wp2_with fail
            go_loopw [12] (fun c wr => InRel w4 h k c wr) (fun c _ => k + 1 - (intOf c).toNat)
            case atStart => exact hst2.out
            case round =>
              clear hst2
              obtain ⟨j, hj1, hj2, rfl, hJ⟩ := hrel
              by_cases hjk : j ≤ k
              · have hjki : (j : Int) ≤ (k : Int) := by omega
                have hjn : 0 ≤ (j : Int) ∧ (j : Int) < (L.length : Int) := by omega
                obtain ⟨x, hx⟩ : ∃ x, L[j]? = some x := ⟨_, List.getElem?_eq_getElem (by omega)⟩
                obtain ⟨b2, o2, rfl, hbB2, e0, e1, e2⟩ := Rd.quot HRD.out hx
                have hxo : x.le 1 := hlo x (List.mem_of_getElem? hx)
                obtain ⟨x', hx', hhit⟩ := HF3.out j (by omega) hjk
                rw [HM.out, hx] at hx'
                cases hx'
                have hbB4 : b2 < w4.heap.size := Nat.lt_of_lt_of_le hbB2 HSZ
                have d0 := (hJ.old (o := o2 + j * 3) hbB4).trans ((HB24.out.cell (p := ⟨b2, o2 + j * 3, none⟩) hbB2).trans e0)
                have d1 := (hJ.old (o := o2 + j * 3 + 1) hbB4).trans ((HB24.out.cell (p := ⟨b2, o2 + j * 3 + 1, none⟩) hbB2).trans e1)
                have d2 := (hJ.old (o := o2 + j * 3 + 2) hbB4).trans ((HB24.out.cell (p := ⟨b2, o2 + j * 3 + 2, none⟩) hbB2).trans e2)
                have hbn2 : b2 < wr.heap.size := Nat.lt_of_lt_of_le hbB4 hJ.bel.size
                obtain ⟨f, qf, _, lf, A1⟩ := absR w4 HT4.out x hxo
                obtain ⟨ca, _, pa, pb, CA⟩ := cmpR w4 HT4.out f z1 lf l1
                rw [qf, q1] at pa pb
                have hcmp : ca < 0 := pb.mpr (by simpa [hitT] using hhit)
                have hwj : IntKind.i64.wrap ((j : Int) + 1) = (j : Int) + 1 := by rw [IntKind.wrap_i64]; omega
                clear pa pb hhit hx e0 e1 e2
                go_wp2_with fail
                refine (A1.out _ hJ.bel).mono ?_
                rintro e W5 ⟨rfl, hb5⟩
                replace hJ := (hJ.call hb5).alloc 27 #[.bool f.neg, .string f.num, .string f.den]
                clear hb5 d0 d1 d2
                obtain ⟨g5, hg5⟩ : ∃ g5, g5 = W5.heap.size := ⟨_, rfl⟩
                rw [← hg5] at hJ
                go_wp2_with fail
                rw [← hg5]
                generalize World.alloc _ _ = W6 at hJ ⊢
                clear hg5
                refine wp_region_in hJ (by kernel_rfl) (by kernel_rfl) ?_
                repeat (first
                  | (refine wpSeq_off (by rfl) ?_; try simp only [Act.put, List.setIfInBounds_toArray, List.set_cons_zero, List.set_cons_succ])
                  | (refine wpSeq_val (v := ?_) (by rfl) (fun W hS => ?_) ?_
                     rotate_left
                     · (have fx := hS.facts; simp only [factsOf, cellsOf, Nat.zero_add, Nat.reduceAdd] at fx; clear hS; go_simp; first | done | with_reducible rfl)
                     try simp only [Act.put, List.setIfInBounds_toArray, List.set_cons_zero, List.set_cons_succ]))
                refine wpSeq_call (v := .agg #[.bool z1.neg, .string z1.num, .string z1.den]) (by rfl) (fun W hS => ?_) (fun W hS => (O1.out W hS.bel)) ?_
                · (clear hS; go_simp; done)
                try simp only [Act.put, List.setIfInBounds_toArray, List.set_cons_zero, List.set_cons_succ]
                repeat (first
                  | (refine wpSeq_off (by rfl) ?_; try simp only [Act.put, List.setIfInBounds_toArray, List.set_cons_zero, List.set_cons_succ])
                  | (refine wpSeq_val (v := ?_) (by rfl) (fun W hS => ?_) ?_
                     rotate_left
                     · (have fx := hS.facts; simp only [factsOf, cellsOf, Nat.zero_add, Nat.reduceAdd] at fx; clear hS; go_simp; first | done | with_reducible rfl)
                     try simp only [Act.put, List.setIfInBounds_toArray, List.set_cons_zero, List.set_cons_succ]))
                refine wpSeq_call (v := .int .i64 ca) (by rfl) (fun W hS => ?_) (fun W hS => (CA.out W hS.bel)) ?_
                · (clear hS; go_simp; done)
                try simp only [Act.put, List.setIfInBounds_toArray, List.set_cons_zero, List.set_cons_succ]
                repeat (first
                  | (refine wpSeq_off (by rfl) ?_; try simp only [Act.put, List.setIfInBounds_toArray, List.set_cons_zero, List.set_cons_succ])
                  | (refine wpSeq_val (v := ?_) (by rfl) (fun W hS => ?_) ?_
                     rotate_left
                     · (have fx := hS.facts; simp only [factsOf, cellsOf, Nat.zero_add, Nat.reduceAdd] at fx; clear hS; go_simp; first | done | with_reducible rfl)
                     try simp only [Act.put, List.setIfInBounds_toArray, List.set_cons_zero, List.set_cons_succ]))
                refine wpSeq_nil (fun W hS => ?_)
                have HN2 := Lib.hid (show InRel w4 h k (.int .i64 ((j : Int) + 1)) W from ⟨j + 1, by omega, by omega, by simp, hS.tail⟩)
                clear hJ hS
                go_wp2_with fail
                go_roundw
                case rel => exact HN2.out
                case measure => simp [intOf]; omega
              · have hjki : ¬ (j : Int) ≤ (k : Int) := by omega
                have HX := Lib.hid (HN.out _ hJ)
                clear hJ HN
                go_wp2_with fail
                go_roundw
                case rel => exact HX.out
                case measure => simp [intOf]; omega
          | true =>
            go_wp2_with fail
            go_loopw [12] (fun c wr => InRel w4 h k c wr) (fun c _ => k + 1 - (intOf c).toNat)
            case atStart => exact hst2.out
            case round =>
              clear hst2
              obtain ⟨j, hj1, hj2, rfl, hJ⟩ := hrel
              by_cases hjk : j ≤ k
              · have hjki : (j : Int) ≤ (k : Int) := by omega
                have hjn : 0 ≤ (j : Int) ∧ (j : Int) < (L.length : Int) := by omega
                obtain ⟨x, hx⟩ : ∃ x, L[j]? = some x := ⟨_, List.getElem?_eq_getElem (by omega)⟩
                obtain ⟨b2, o2, rfl, hbB2, e0, e1, e2⟩ := Rd.quot HRD.out hx
                have hxo : x.le 1 := hlo x (List.mem_of_getElem? hx)
                obtain ⟨x', hx', hhit⟩ := HF3.out j (by omega) hjk
                rw [HM.out, hx] at hx'
                cases hx'
                have hbB4 : b2 < w4.heap.size := Nat.lt_of_lt_of_le hbB2 HSZ
                have d0 := (hJ.old (o := o2 + j * 3) hbB4).trans ((HB24.out.cell (p := ⟨b2, o2 + j * 3, none⟩) hbB2).trans e0)
                have d1 := (hJ.old (o := o2 + j * 3 + 1) hbB4).trans ((HB24.out.cell (p := ⟨b2, o2 + j * 3 + 1, none⟩) hbB2).trans e1)
                have d2 := (hJ.old (o := o2 + j * 3 + 2) hbB4).trans ((HB24.out.cell (p := ⟨b2, o2 + j * 3 + 2, none⟩) hbB2).trans e2)
                have hbn2 : b2 < wr.heap.size := Nat.lt_of_lt_of_le hbB4 hJ.bel.size
                obtain ⟨f, qf, _, lf, A1⟩ := absR w4 HT4.out x hxo
                obtain ⟨ca, _, pa, pb, CA⟩ := cmpR w4 HT4.out f z2 lf l2
                rw [qf, q2] at pa pb
                have hcmp : decide (ca ≤ 0) = false := (by have := pa.mpr (by simpa [hitT] using hhit); exact decide_eq_false (by omega))
                have hwj : IntKind.i64.wrap ((j : Int) + 1) = (j : Int) + 1 := by rw [IntKind.wrap_i64]; omega
                clear pa pb hhit hx e0 e1 e2
                go_wp2_with fail
                refine (A1.out _ hJ.bel).mono ?_
                rintro e W5 ⟨rfl, hb5⟩
                replace hJ := (hJ.call hb5).alloc 27 #[.bool f.neg, .string f.num, .string f.den]
                clear hb5 d0 d1 d2
                obtain ⟨g5, hg5⟩ : ∃ g5, g5 = W5.heap.size := ⟨_, rfl⟩
                rw [← hg5] at hJ
                go_wp2_with fail
                rw [← hg5]
                generalize World.alloc _ _ = W6 at hJ ⊢
                clear hg5
                refine wp_region_in hJ (by kernel_rfl) (by kernel_rfl) ?_
                repeat (first
                  | (refine wpSeq_off (by rfl) ?_; try simp only [Act.put, List.setIfInBounds_toArray, List.set_cons_zero, List.set_cons_succ])
                  | (refine wpSeq_val (v := ?_) (by rfl) (fun W hS => ?_) ?_
                     rotate_left
                     · (have fx := hS.facts; simp only [factsOf, cellsOf, Nat.zero_add, Nat.reduceAdd] at fx; clear hS; go_simp; first | done | with_reducible rfl)
                     try simp only [Act.put, List.setIfInBounds_toArray, List.set_cons_zero, List.set_cons_succ]))
                refine wpSeq_call (v := .agg #[.bool z2.neg, .string z2.num, .string z2.den]) (by rfl) (fun W hS => ?_) (fun W hS => (O2.out W hS.bel)) ?_
                · (clear hS; go_simp; done)
                try simp only [Act.put, List.setIfInBounds_toArray, List.set_cons_zero, List.set_cons_succ]
                repeat (first
                  | (refine wpSeq_off (by rfl) ?_; try simp only [Act.put, List.setIfInBounds_toArray, List.set_cons_zero, List.set_cons_succ])
                  | (refine wpSeq_val (v := ?_) (by rfl) (fun W hS => ?_) ?_
                     rotate_left
                     · (have fx := hS.facts; simp only [factsOf, cellsOf, Nat.zero_add, Nat.reduceAdd] at fx; clear hS; go_simp; first | done | with_reducible rfl)
                     try simp only [Act.put, List.setIfInBounds_toArray, List.set_cons_zero, List.set_cons_succ]))
                refine wpSeq_call (v := .int .i64 ca) (by rfl) (fun W hS => ?_) (fun W hS => (CA.out W hS.bel)) ?_
                · (clear hS; go_simp; done)
                try simp only [Act.put, List.setIfInBounds_toArray, List.set_cons_zero, List.set_cons_succ]
                repeat (first
                  | (refine wpSeq_off (by rfl) ?_; try simp only [Act.put, List.setIfInBounds_toArray, List.set_cons_zero, List.set_cons_succ])
                  | (refine wpSeq_val (v := ?_) (by rfl) (fun W hS => ?_) ?_
                     rotate_left
                     · (have fx := hS.facts; simp only [factsOf, cellsOf, Nat.zero_add, Nat.reduceAdd] at fx; clear hS; go_simp; first | done | with_reducible rfl)
                     try simp only [Act.put, List.setIfInBounds_toArray, List.set_cons_zero, List.set_cons_succ]))
                refine wpSeq_nil (fun W hS => ?_)
                have HN2 := Lib.hid (show InRel w4 h k (.int .i64 ((j : Int) + 1)) W from ⟨j + 1, by omega, by omega, by simp, hS.tail⟩)
                clear hJ hS
                go_wp2_with fail
                go_roundw
                case rel => exact HN2.out
                case measure => simp [intOf]; omega
              · have hjki : ¬ (j : Int) ≤ (k : Int) := by omega
                have HX := Lib.hid (HN.out _ hJ)
                clear hJ HN
                go_wp2_with fail
                go_roundw
                case rel => exact HX.out
                case measure => simp [intOf]; omega
    · obtain rfl : k = L.length := by omega
      have hki : ¬ (L.length : Int) < (L.length : Int) := by omega
      have hfin := hB4.trans (hI.bel.mono hB4.size)
      clear hB4 hI
      go_wp2
      go_ret
      exact ⟨rfl, hfin⟩
end Go.Proofs.YthmgcbpmfipfiaaDoor.feelTouch
