/- gantlaw5.touches, and what Touch refuses. Conditions: those typed. -/
import Derived.Test.YthmgcbpmfipfiaaDoorTouch
namespace Go.Proofs.YthmgcbpmfipfiaaDoor
open Go.RowKit Go.Gy
set_option linter.unusedVariables false
set_option maxRecDepth 100000 in
set_option maxHeartbeats 4000000 in
theorem touch_bad (w : World) (v : Value) (lo hi : Q3) (h : Int) (hlo : lo.ok) (hhi : hi.ok) (hb : h < 1 ∨ hi.q < lo.q) (hT : TabW w) :
    Calls Tryd.prog 24 #[v, .agg #[.bool lo.neg, .string lo.num, .string lo.den], .agg #[.bool hi.neg, .string hi.num, .string hi.den], .int .i64 h] w fun e w' => e = .returned (.tuple #[.slice none 0 0, .int .i64 1]) ∧ Below w.heap.size w w' := by
  obtain ⟨c0, _, p0, _, C0⟩ := cmpR w hT lo hi (hlo : lo.le 274877906944) (hhi : hi.le 274877906944)
  have hI := ((In.start w).alloc 27 #[.bool lo.neg, .string lo.num, .string lo.den]).alloc 27 #[.bool hi.neg, .string hi.num, .string hi.den]
  rw [World.size_alloc] at hI
  by_cases h1 : h < 1
  · clear hb p0 hT
    go_enter Tryd.func24, Tryd.ntmps24
    go_wp2
    refine bodyPost_ret (results_tmp2 rfl _ _ _) rfl ?_
    exact ⟨rfl, hI.bel⟩
  · have hc : c0 > 0 := p0.mpr (by rcases hb with hb | hb; exact absurd hb h1; exact hb)
    clear hb p0 hT
    go_enter Tryd.func24, Tryd.ntmps24
    go_wp2_with fail
    refine (C0.out _ hI.bel).mono ?_
    rintro e wn ⟨rfl, hb⟩
    replace hI := hI.call hb
    clear hb
    go_wp2
    refine bodyPost_ret (results_tmp2 rfl _ _ _) rfl ?_
    exact ⟨rfl, hI.bel⟩
def TsRel (w : World) (lo hi : Rat) (h : Int) (L : List Rat) (n : Nat) (on since i : Value) (wr : World) : Prop :=
  ∃ k : Nat, k ≤ n ∧ i = .int .i64 k ∧ on = .bool (stT lo hi h L k).1 ∧ since = .int .i64 ((k : Int) - (stT lo hi h L k).2) ∧ In w [] wr
set_option maxRecDepth 100000 in
set_option maxHeartbeats 8000000 in
theorem touches_any (w : World) (v : Value) (l : List Q3) (lo hi : Q3) (h : Int) (hv : SlQ w w.heap.size v l) (hl : ∀ x ∈ l, x.ok) (hlo : lo.ok) (hhi : hi.ok) (hn : l.length ≤ 1000) (hT : TabW w) :
    Calls Tryd.prog 40 #[v, .agg #[.bool lo.neg, .string lo.num, .string lo.den], .agg #[.bool hi.neg, .string hi.num, .string hi.den], .int .i64 h] w fun e w' => e = .returned (.bool true) ∧ Below w.heap.size w w' := by
  have HT := Lib.hid hT
  obtain ⟨c0, _, _, p0, C0⟩ := cmpR w hT hi lo (hhi : hi.le 274877906944) (hlo : lo.le 274877906944)
  have hI := ((In.start w).alloc 27 #[.bool lo.neg, .string lo.num, .string lo.den]).alloc 27 #[.bool hi.neg, .string hi.num, .string hi.den]
  rw [World.size_alloc] at hI
  have HV := Lib.hid hv
  by_cases hbad : h < 1 ∨ hi.q < lo.q
  · have HB := Lib.hid (fun W hW => touch_bad W v lo hi h hlo hhi hbad (tabs w HT.out hW))
    have hcase : h < 1 ∨ (¬ h < 1 ∧ c0 < 0) := by
      rcases hbad with h1 | h1
      · exact .inl h1
      · by_cases h2 : h < 1
        · exact .inl h2
        · exact .inr ⟨h2, p0.mpr h1⟩
    clear hbad p0 hv hT
    rcases hcase with h1 | ⟨h1, h2⟩
    · go_enter Tryd.func40, Tryd.ntmps40
      go_wp2_with fail
      refine (HB.out _ hI.bel).mono ?_
      rintro e wn ⟨rfl, hb⟩
      replace hI := hI.call hb
      clear hb
      go_wp2
      go_ret
      exact ⟨rfl, hI.bel⟩
    · go_enter Tryd.func40, Tryd.ntmps40
      go_wp2_with fail
      refine (HB.out _ hI.bel).mono ?_
      rintro e wn ⟨rfl, hb⟩
      replace hI := hI.call hb
      clear hb
      have fx := hI.facts
      simp only [factsOf, cellsOf, Nat.zero_add, Nat.reduceAdd] at fx
      go_wp2_with fail
      refine (C0.out _ hI.bel).mono ?_
      rintro e wn ⟨rfl, hb⟩
      replace hI := hI.call hb
      clear hb
      clear fx
      go_wp2
      go_ret
      exact ⟨rfl, hI.bel⟩
  · have h1 : 1 ≤ h := by omega
    have hle : lo.q ≤ hi.q := by grind
    have HB := Lib.hid (fun W hW => touch_ok W v l lo hi h ((hv.below hW).more hW.size) hl hlo hhi h1 hle hn (tabs w HT.out hW))
    have g1 : ¬ h < 1 := by omega
    have g2 : ¬ c0 < 0 := fun hc => hbad (.inr (p0.mp hc))
    clear hbad p0 hv hT
    obtain ⟨A, n, c, rfl, hln, hnc, hA, hrd⟩ := HV.out
    subst hln
    have HRD := Lib.hid hrd
    have HM := Lib.hid (show ∀ j, (l.map Q3.q)[j]? = (l[j]?).map Q3.q from fun j => List.getElem?_map)
    clear hrd
    go_enter Tryd.func40, Tryd.ntmps40
    go_wp2_with fail
    refine (HB.out _ hI.bel).mono ?_
    rintro e w4 ⟨v', rfl, hown, hb⟩
    replace hI := hI.call hb
    obtain ⟨A', c', rfl, hnc', _, hrd'⟩ := own_rd hown
    clear hown hb
    have fx := hI.facts
    simp only [factsOf, cellsOf, Nat.zero_add, Nat.reduceAdd] at fx
    go_wp2_with fail
    refine (C0.out _ hI.bel).mono ?_
    rintro e w5 ⟨rfl, hb⟩
    clear fx
    replace hI := hI.call hb
    have HRD' := Lib.hid ((hrd'.below hb).more hb.size)
    clear hrd' hb
    have EL := Lib.hid (fun W (hW : Below w5.heap.size w5 W) => (⟨(hW.cell (p := ⟨w.heap.size, 0, none⟩) (hI.lt (k := 1) rfl)).trans (hI.cell (k := 1) (i := 0) rfl rfl), (hW.cell (p := ⟨w.heap.size, 1, none⟩) (hI.lt (k := 1) rfl)).trans (hI.cell (k := 1) (i := 1) rfl rfl), (hW.cell (p := ⟨w.heap.size, 2, none⟩) (hI.lt (k := 1) rfl)).trans (hI.cell (k := 1) (i := 2) rfl rfl), (hW.cell (p := ⟨w.heap.size + 1, 0, none⟩) (hI.lt (k := 0) rfl)).trans (hI.cell (k := 0) (i := 0) rfl rfl), (hW.cell (p := ⟨w.heap.size + 1, 1, none⟩) (hI.lt (k := 0) rfl)).trans (hI.cell (k := 0) (i := 1) rfl rfl), (hW.cell (p := ⟨w.heap.size + 1, 2, none⟩) (hI.lt (k := 0) rfl)).trans (hI.cell (k := 0) (i := 2) rfl rfl)⟩ : And _ (And _ (And _ (And _ (And _ _))))))
    have HI4 := Lib.hid hI.bel
    have HT4 := Lib.hid (tabs w HT.out hI.bel)
    have hst := Lib.hid (show TsRel w5 lo.q hi.q h (l.map Q3.q) l.length (.bool false) (.int .i64 0) (.int .i64 0) w5 from ⟨0, Nat.zero_le _, rfl, rfl, rfl, In.start w5⟩)
    clear hI
    go_wp2_with fail
    go_loopw [11, 12, 50] (fun on since i wr => TsRel w5 lo.q hi.q h (l.map Q3.q) l.length on since i wr) (fun _ _ i _ => l.length - (intOf i).toNat)
    case atStart => exact hst.out
    case round =>
      clear hst
      obtain ⟨k, hk, rfl, rfl, rfl, hJ⟩ := hrel
      by_cases hkn : k < l.length
      · have hki : (k : Int) < (l.length : Int) := by omega
        have hki2 : 0 ≤ (k : Int) ∧ (k : Int) < (l.length : Int) := by omega
        obtain ⟨x, hx⟩ : ∃ x, l[k]? = some x := ⟨_, List.getElem?_eq_getElem hkn⟩
        obtain ⟨b, o, rfl, hbB, e0, e1, e2⟩ := Rd.quot HRD.out hx
        have hxo : x.le 274877906944 := hl x (List.mem_of_getElem? hx)
        have hb5 : b < w5.heap.size := Nat.lt_of_lt_of_le hbB HI4.out.size
        have d0 := (hJ.old (o := o + k * 3) hb5).trans ((HI4.out.cell (p := ⟨b, o + k * 3, none⟩) hbB).trans e0)
        have d1 := (hJ.old (o := o + k * 3 + 1) hb5).trans ((HI4.out.cell (p := ⟨b, o + k * 3 + 1, none⟩) hbB).trans e1)
        have d2 := (hJ.old (o := o + k * 3 + 2) hb5).trans ((HI4.out.cell (p := ⟨b, o + k * 3 + 2, none⟩) hbB).trans e2)
        have hbn : b < wr.heap.size := Nat.lt_of_lt_of_le hb5 hJ.bel.size
        obtain ⟨b', o', u, rfl, hbB', hu, hcu⟩ := HRD'.out.at_ hkn
        rw [List.getElem?_map, outT_get hkn] at hu
        cases hu
        have hbo5 : b' < w5.heap.size := hbB'
        have hsx : (l.map Q3.q)[k]? = some x.q := by rw [HM.out, hx]; rfl
        have HS := stT_succ (lo := lo.q) (hi := hi.q) (hold := h) hsx
        obtain ⟨r1, r2, r3⟩ := stT_range lo.q hi.q h1 (l.map Q3.q) k
        change w5.cell? ⟨b', o' + k, none⟩ = some (.bool (stT lo.q hi.q h (l.map Q3.q) (k + 1)).1) at hcu
        rw [HS] at hcu
        obtain ⟨on, many, hsk⟩ : ∃ on many, stT lo.q hi.q h (l.map Q3.q) k = (on, many) := ⟨_, _, rfl⟩
        rw [hsk] at HS hcu r1 r2 r3 ⊢
        simp only at r1 r2 r3
        obtain ⟨f, qf, _, lf, A1⟩ := absR w5 HT4.out x hxo
        obtain ⟨ca, _, _, pa, CA⟩ := cmpR w5 HT4.out f lo lf (hlo : lo.le 274877906944)
        obtain ⟨cb, _, pb, _, CB⟩ := cmpR w5 HT4.out f hi lf (hhi : hi.le 274877906944)
        rw [qf] at pa pb
        have HS2 := Lib.hid HS
        have HCU := Lib.hid hcu
        have hwk : IntKind.i64.wrap ((k : Int) + 1) = (k : Int) + 1 := by rw [IntKind.wrap_i64]; omega
        replace hJ := hJ.alloc 27 #[.bool x.neg, .string x.num, .string x.den]
        clear e0 e1 e2 hx hsx HS hcu hsk
        go_upto_region 10 with (fail)
        clear d0 d1 d2
        generalize World.alloc _ _ = W1 at hJ ⊢
        go_cut [15] (fun q wx => q = .bool (hitT lo.q hi.q on x.q) ∧ In w5 [] wx)
        case first =>
          cases on with
          | true =>
            have hv : (Value.bool (decide (ca < 0))) = .bool (hitT lo.q hi.q true x.q) := by unfold hitT; rw [if_pos rfl, decide_eq_decide.mpr pa]
            have HV2 := Lib.hid hv
            clear hv pa pb
            refine wp_region_in hJ (by kernel_rfl) (by kernel_rfl) ?_
            repeat (first
              | (refine wpSeq_off (by rfl) ?_; try simp only [Act.put, List.setIfInBounds_toArray, List.set_cons_zero, List.set_cons_succ])
              | (refine wpSeq_val (v := ?_) (by rfl) (fun W hS => ?_) ?_
                 rotate_left
                 · (have fx := hS.facts; simp only [factsOf, cellsOf, Nat.zero_add, Nat.reduceAdd] at fx; have fy0 := EL.out W hS.bel; clear hS; go_simp; first | done | with_reducible rfl)
                 try simp only [Act.put, List.setIfInBounds_toArray, List.set_cons_zero, List.set_cons_succ]))
            refine wpSeq_call (v := .agg #[.bool f.neg, .string f.num, .string f.den]) (by rfl) (fun W hS => ?_) (fun W hS => (A1.out W hS.bel)) ?_
            · (clear hS; go_simp; done)
            try simp only [Act.put, List.setIfInBounds_toArray, List.set_cons_zero, List.set_cons_succ]
            repeat (first
              | (refine wpSeq_off (by rfl) ?_; try simp only [Act.put, List.setIfInBounds_toArray, List.set_cons_zero, List.set_cons_succ])
              | (refine wpSeq_val (v := ?_) (by rfl) (fun W hS => ?_) ?_
                 rotate_left
                 · (have fx := hS.facts; simp only [factsOf, cellsOf, Nat.zero_add, Nat.reduceAdd] at fx; have fy0 := EL.out W hS.bel; clear hS; go_simp; first | done | with_reducible rfl)
                 try simp only [Act.put, List.setIfInBounds_toArray, List.set_cons_zero, List.set_cons_succ]))
            refine wpSeq_call (v := .int .i64 ca) (by rfl) (fun W hS => ?_) (fun W hS => (CA.out W hS.bel)) ?_
            · (clear hS; go_simp; done)
            try simp only [Act.put, List.setIfInBounds_toArray, List.set_cons_zero, List.set_cons_succ]
            repeat (first
              | (refine wpSeq_off (by rfl) ?_; try simp only [Act.put, List.setIfInBounds_toArray, List.set_cons_zero, List.set_cons_succ])
              | (refine wpSeq_val (v := ?_) (by rfl) (fun W hS => ?_) ?_
                 rotate_left
                 · (have fx := hS.facts; simp only [factsOf, cellsOf, Nat.zero_add, Nat.reduceAdd] at fx; clear hS; go_simp; first | done | with_reducible rfl)
                 try simp only [Act.put, List.setIfInBounds_toArray, List.set_cons_zero, List.set_cons_succ]))
            refine wpSeq_nil (fun W hS => ?_)
            go_wp2_with fail
            go_meet
            exact ⟨HV2.out, hS.tail⟩
          | false =>
            have hv : (Value.bool (decide (cb > 0))) = .bool (hitT lo.q hi.q false x.q) := by unfold hitT; rw [if_neg (by decide), decide_eq_decide.mpr (show cb > 0 ↔ _ from pb)]
            have HV2 := Lib.hid hv
            clear hv pa pb
            by_cases hcb : cb > 0
            all_goals
              refine wp_region_in hJ (by kernel_rfl) (by kernel_rfl) ?_
              repeat (first
                | (refine wpSeq_off (by rfl) ?_; try simp only [Act.put, List.setIfInBounds_toArray, List.set_cons_zero, List.set_cons_succ])
                | (refine wpSeq_val (v := ?_) (by rfl) (fun W hS => ?_) ?_
                   rotate_left
                   · (have fx := hS.facts; simp only [factsOf, cellsOf, Nat.zero_add, Nat.reduceAdd] at fx; have fy0 := EL.out W hS.bel; clear hS; go_simp; first | done | with_reducible rfl)
                   try simp only [Act.put, List.setIfInBounds_toArray, List.set_cons_zero, List.set_cons_succ]))
              refine wpSeq_call (v := .agg #[.bool f.neg, .string f.num, .string f.den]) (by rfl) (fun W hS => ?_) (fun W hS => (A1.out W hS.bel)) ?_
              · (clear hS; go_simp; done)
              try simp only [Act.put, List.setIfInBounds_toArray, List.set_cons_zero, List.set_cons_succ]
              repeat (first
                | (refine wpSeq_off (by rfl) ?_; try simp only [Act.put, List.setIfInBounds_toArray, List.set_cons_zero, List.set_cons_succ])
                | (refine wpSeq_val (v := ?_) (by rfl) (fun W hS => ?_) ?_
                   rotate_left
                   · (have fx := hS.facts; simp only [factsOf, cellsOf, Nat.zero_add, Nat.reduceAdd] at fx; have fy0 := EL.out W hS.bel; clear hS; go_simp; first | done | with_reducible rfl)
                   try simp only [Act.put, List.setIfInBounds_toArray, List.set_cons_zero, List.set_cons_succ]))
              refine wpSeq_call (v := .int .i64 cb) (by rfl) (fun W hS => ?_) (fun W hS => (CB.out W hS.bel)) ?_
              · (clear hS; go_simp; done)
              try simp only [Act.put, List.setIfInBounds_toArray, List.set_cons_zero, List.set_cons_succ]
              repeat (first
                | (refine wpSeq_off (by rfl) ?_; try simp only [Act.put, List.setIfInBounds_toArray, List.set_cons_zero, List.set_cons_succ])
                | (refine wpSeq_val (v := ?_) (by rfl) (fun W hS => ?_) ?_
                   rotate_left
                   · (have fx := hS.facts; simp only [factsOf, cellsOf, Nat.zero_add, Nat.reduceAdd] at fx; clear hS; go_simp; first | done | with_reducible rfl)
                   try simp only [Act.put, List.setIfInBounds_toArray, List.set_cons_zero, List.set_cons_succ]))
              refine wpSeq_nil (fun W hS => ?_)
              go_wp2_with fail
              go_meet
              exact ⟨by rw [← HV2.out]; try simp [hcb], hS.tail⟩
        case rest =>
          obtain ⟨rfl, hQ⟩ := hcut
          clear hJ pa pb CA CB A1
          have HN := Lib.hid (show ∀ v u, v = .bool (stepT lo.q hi.q h (on, many) x.q).1 → u = .int .i64 ((k : Int) + 1 - (stepT lo.q hi.q h (on, many) x.q).2) → TsRel w5 lo.q hi.q h (l.map Q3.q) l.length v u (.int .i64 ((k : Int) + 1)) wc from fun v u hv hu => by
            subst hv hu
            exact ⟨k + 1, hkn, by simp, by rw [HS2.out], by rw [HS2.out]; simp, hQ⟩)
          have hcw : wc.cell? ⟨b', o' + k, none⟩ = some (.bool (stepT lo.q hi.q h (on, many) x.q).1) := (hQ.old hbo5).trans HCU.out
          have hwm : IntKind.i64.wrap ((k : Int) + 1 - ((k : Int) - many)) = many + 1 := by rw [IntKind.wrap_i64]; omega
          have hw0 : IntKind.i64.wrap ((k : Int) + 1 - ((k : Int) + 1)) = 0 := by rw [IntKind.wrap_i64]; omega
          clear hQ HS2 HCU
          obtain ⟨ht, hht⟩ : ∃ ht, ht = hitT lo.q hi.q on x.q := ⟨_, rfl⟩
          rw [← hht]
          cases ht with
          | false =>
            rw [stepT_miss (s := (on, many)) hht.symm] at HN hcw
            have HX := Lib.hid (HN.out (.bool on) (.int .i64 ((k : Int) + 1)) rfl (by simp))
            have hge : ¬ (0 : Int) ≥ h := by omega
            clear HN hwm
            cases on
            all_goals
              clear hht
              go_wp2_with fail
              go_roundw
              case rel => exact HX.out
              case measure => simp [intOf]; omega
          | true =>
            by_cases hm : many + 1 = h
            · rw [stepT_flip (s := (on, many)) hht.symm hm] at HN hcw
              have HX := Lib.hid (HN.out (.bool (!on)) (.int .i64 ((k : Int) + 1)) rfl (by simp))
              have hge : many + 1 ≥ h := by omega
              clear HN hm hw0
              cases on
              all_goals
                clear hht
                go_wp2_with fail
                go_roundw
                case rel => exact HX.out
                case measure => simp [intOf]; omega
            · rw [stepT_hit (s := (on, many)) hht.symm hm] at HN hcw
              have HX := Lib.hid (HN.out (.bool on) (.int .i64 ((k : Int) - many)) rfl (by congr 1; simp only; omega))
              have hge : ¬ many + 1 ≥ h := by omega
              clear HN hm hw0
              cases on
              all_goals
                clear hht
                go_wp2_with fail
                go_roundw
                case rel => exact HX.out
                case measure => simp [intOf]; omega
      · obtain rfl : k = l.length := by omega
        have hki : ¬ (l.length : Int) < (l.length : Int) := by omega
        have hfin := HI4.out.trans (hJ.bel.mono HI4.out.size)
        clear hJ
        go_wp2
        go_ret
        exact ⟨rfl, hfin⟩
end Go.Proofs.YthmgcbpmfipfiaaDoor
