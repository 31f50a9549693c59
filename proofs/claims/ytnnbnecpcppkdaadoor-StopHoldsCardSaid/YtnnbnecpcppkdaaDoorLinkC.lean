/- arm.check. Conditions: those typed. -/
import Derived.Test.YtnnbnecpcppkdaaDoorLinks
namespace Go.Proofs.YtnnbnecpcppkdaaDoor
open Go.RowKit Go.Gy
set_option linter.unusedVariables false
theorem polyCheck_any (w : World) (hT : TabW w) (v : Value) (l : List P2) {N : Nat} (hv : SlP w w.heap.size v l) (hl : ∀ x ∈ l, x.le N) (hN : 1 ≤ N ∧ N ≤ 68719476736) :
    Calls Tryd.prog 119 #[v] w fun r w' => ∃ e, r = .returned (.int .i64 e) ∧ CheckIs l 8 e ∧ Below w.heap.size w w' := by
  have HC := Lib.hid (check_at w hT v l hv hl hN 8 (by decide))
  clear hv hl hT
  go_enter Tryd.func119, Tryd.ntmps119
  go_wp2_with fail
  refine HC.out.mono ?_
  rintro r w' ⟨e, rfl, hc, hb⟩
  have HR := Lib.hid (And.intro hc hb)
  clear hc hb HC
  go_wp2
  go_ret
  exact ⟨e, rfl, HR.out⟩
/-- the loop over the corners -/
def LcRel (w : World) (ls : List (Nat × TypeId × Array Value)) (l : List P2) (i : Value) (wr : World) : Prop := ∃ k : Nat, k ≤ l.length ∧ i = .int .i64 k ∧ (∀ (j : Nat) (p : P2), j < k → l[j]? = some p → AllSmall [p.x, p.y]) ∧ In w ls wr
set_option maxRecDepth 100000 in
set_option maxHeartbeats 8000000 in
theorem linkCheck_any (w : World) (hT : TabW w) (k : Lk) (l : List P2) {N : Nat} (hk : k.le N) (hs : SlP w w.heap.size k.shape l) (hl : ∀ x ∈ l, x.le N) (hN : 1 ≤ N ∧ N ≤ 68719476736) :
    Calls Tryd.prog 86 #[.agg #[.bool k.len.neg, .string k.len.num, .string k.len.den, .bool k.low.neg, .string k.low.num, .string k.low.den, .bool k.high.neg, .string k.high.num, .string k.high.den, .bool k.speed.neg, .string k.speed.num, .string k.speed.den, .bool k.brake.neg, .string k.brake.num, .string k.brake.den, k.shape]] w fun r w' => ∃ e, r = .returned (.int .i64 e) ∧ LinkE k l e ∧ Below w.heap.size w w' := by
  have HT := Lib.hid hT
  obtain ⟨klen, klow, khigh, kspeed, kbrake, kshape⟩ := k
  obtain ⟨A, n, c, hsh, hln, hnc, hA, hrd⟩ := id hs
  obtain rfl : kshape = .slice A n c := hsh
  subst hln
  have HS := Lib.hid hs
  have HRD := Lib.hid hrd
  obtain ⟨l1, l2, l3, l4, l5⟩ := hk
  have l1 : klen.le N := l1
  have l2 : klow.le N := l2
  have l3 : khigh.le N := l3
  have l4 : kspeed.le N := l4
  have l5 : kbrake.le N := l5
  have HL := Lib.hid hl
  have HSM := Lib.hid (fun W (hW : Below w.heap.size w W) v (hv : SlQ W W.heap.size v [klen, klow, khigh, kspeed, kbrake]) => smalls_any W (tabs w HT.out hW) v [klen, klow, khigh, kspeed, kbrake] (N := N) hv (by
    intro x hx
    simp only [List.mem_cons, List.not_mem_nil, or_false] at hx
    rcases hx with rfl | rfl | rfl | rfl | rfl <;> assumption) (by omega) (by simp))
  have HPC := Lib.hid (fun W (hW : Below w.heap.size w W) => polyCheck_any W (tabs w HT.out hW) (.slice A l.length c) l ((HS.out.below hW).more hW.size) HL.out hN)
  obtain ⟨c1, _, p1, _, C1⟩ := signR w hT klen l1
  obtain ⟨c2, _, _, p2, C2⟩ := cmpR w hT klow khigh l2 l3
  obtain ⟨c3, _, p3, _, C3⟩ := signR w hT kspeed l4
  obtain ⟨c4, _, p4, _, C4⟩ := signR w hT kbrake l5
  obtain ⟨lk, hlk⟩ : ∃ lk : Lk, lk = ⟨klen, klow, khigh, kspeed, kbrake, .slice A l.length c⟩ := ⟨_, rfl⟩
  have HG := Lib.hid (show LinkGood lk ↔ (AllSmall [klen, klow, khigh, kspeed, kbrake] ∧ ¬ c1 ≤ 0 ∧ ¬ c2 ≥ 0 ∧ ¬ c3 ≤ 0 ∧ ¬ c4 ≤ 0) by
    subst hlk
    unfold LinkGood
    simp only
    rw [← p1, ← p2, ← p3, ← p4]
    constructor
    · rintro ⟨a, b, c, d, e⟩; exact ⟨a, by omega, by omega, by omega, by omega⟩
    · rintro ⟨a, b, c, d, e⟩; exact ⟨a, by omega, by omega, by omega, by omega⟩)
  change Calls Tryd.prog 86 #[.agg #[.bool klen.neg, .string klen.num, .string klen.den, .bool klow.neg, .string klow.num, .string klow.den, .bool khigh.neg, .string khigh.num, .string khigh.den, .bool kspeed.neg, .string kspeed.num, .string kspeed.den, .bool kbrake.neg, .string kbrake.num, .string kbrake.den, .slice A l.length c]] w fun r w' => ∃ e, r = .returned (.int .i64 e) ∧ LinkE ⟨klen, klow, khigh, kspeed, kbrake, .slice A l.length c⟩ l e ∧ Below w.heap.size w w'
  rw [← hlk]
  have HE1 := Lib.hid (show ¬ LinkGood lk → LinkE lk l 1 from fun h => .inl ⟨h, rfl⟩)
  have HE2 := Lib.hid (show LinkGood lk → ∀ c, CheckIs l 8 c → c ≠ 0 → LinkE lk l c from fun h c hc h0 => .inr ⟨h, c, hc, .inl ⟨h0, rfl⟩⟩)
  have HE3 := Lib.hid (show LinkGood lk → CheckIs l 8 0 → ¬ PtsSmall l → LinkE lk l 1 from fun h hc h0 => .inr ⟨h, 0, hc, .inr (.inl ⟨rfl, h0, rfl⟩)⟩)
  have HE4 := Lib.hid (show LinkGood lk → CheckIs l 8 0 → PtsSmall l → LinkE lk l 0 from fun h hc h0 => .inr ⟨h, 0, hc, .inr (.inr ⟨rfl, h0, rfl⟩)⟩)
  have hI := (In.start w).alloc 28 #[.bool klen.neg, .string klen.num, .string klen.den, .bool klow.neg, .string klow.num, .string klow.den, .bool khigh.neg, .string khigh.num, .string khigh.den, .bool kspeed.neg, .string kspeed.num, .string kspeed.den, .bool kbrake.neg, .string kbrake.num, .string kbrake.den, .slice A l.length c]
  obtain ⟨g, hg⟩ : ∃ g, g = w.heap.size := ⟨_, rfl⟩
  rw [← hg] at hI
  clear hrd hs hl hT p1 p2 p3 p4 l1 l2 l3 l4 l5 hlk
  go_enter Tryd.func86, Tryd.ntmps86
  go_upto_region 1 with (fail)
  rw [← hg]
  generalize World.alloc _ _ = W1 at hI ⊢
  clear hg
  have fx := hI.facts
  simp only [factsOf, cellsOf, Nat.zero_add, Nat.reduceAdd] at fx
  go_wp2_with fail
  have hJ := hI.alloc 25 #[.bool klen.neg, .string klen.num, .string klen.den, .bool klow.neg, .string klow.num, .string klow.den, .bool khigh.neg, .string khigh.num, .string khigh.den, .bool kspeed.neg, .string kspeed.num, .string kspeed.den, .bool kbrake.neg, .string kbrake.num, .string kbrake.den]
  have HQ := Lib.hid (HSM.out _ hJ.bel _ (hJ.slq (k := 0) rfl [klen, klow, khigh, kspeed, kbrake] rfl))
  by_cases hsm : AllSmall [klen, klow, khigh, kspeed, kbrake]
  · rw [decide_eq_true hsm] at HQ
    have Hsm := Lib.hid hsm
    clear hsm
    refine HQ.out.mono ?_
    rintro e wn ⟨rfl, hb⟩
    replace hI := (hJ.call hb).tail
    clear hb fx hJ HQ
    have fx := hI.facts
    simp only [factsOf, cellsOf, Nat.zero_add, Nat.reduceAdd] at fx
    by_cases h1 : c1 ≤ 0
    · go_wp2_with fail
      refine (C1.out _ hI.bel).mono ?_
      rintro e wn ⟨rfl, hb⟩
      replace hI := hI.call hb
      clear hb fx
      have fx := hI.facts
      simp only [factsOf, cellsOf, Nat.zero_add, Nat.reduceAdd] at fx
      have HP := Lib.hid (HE1.out (fun h => by obtain ⟨_, a2, a3, a4, a5⟩ := HG.out.mp h; omega))
      go_wp2
      go_ret
      exact ⟨1, rfl, HP.out, hI.bel⟩
    · go_wp2_with fail
      refine (C1.out _ hI.bel).mono ?_
      rintro e wn ⟨rfl, hb⟩
      replace hI := hI.call hb
      clear hb fx
      have fx := hI.facts
      simp only [factsOf, cellsOf, Nat.zero_add, Nat.reduceAdd] at fx
      by_cases h2 : c2 ≥ 0
      · go_wp2_with fail
        refine (C2.out _ hI.bel).mono ?_
        rintro e wn ⟨rfl, hb⟩
        replace hI := hI.call hb
        clear hb fx
        have fx := hI.facts
        simp only [factsOf, cellsOf, Nat.zero_add, Nat.reduceAdd] at fx
        have HP := Lib.hid (HE1.out (fun h => by obtain ⟨_, a2, a3, a4, a5⟩ := HG.out.mp h; omega))
        go_wp2
        go_ret
        exact ⟨1, rfl, HP.out, hI.bel⟩
      · go_wp2_with fail
        refine (C2.out _ hI.bel).mono ?_
        rintro e wn ⟨rfl, hb⟩
        replace hI := hI.call hb
        clear hb fx
        have fx := hI.facts
        simp only [factsOf, cellsOf, Nat.zero_add, Nat.reduceAdd] at fx
        by_cases h3 : c3 ≤ 0
        · go_wp2_with fail
          refine (C3.out _ hI.bel).mono ?_
          rintro e wn ⟨rfl, hb⟩
          replace hI := hI.call hb
          clear hb fx
          have fx := hI.facts
          simp only [factsOf, cellsOf, Nat.zero_add, Nat.reduceAdd] at fx
          have HP := Lib.hid (HE1.out (fun h => by obtain ⟨_, a2, a3, a4, a5⟩ := HG.out.mp h; omega))
          go_wp2
          go_ret
          exact ⟨1, rfl, HP.out, hI.bel⟩
        · go_wp2_with fail
          refine (C3.out _ hI.bel).mono ?_
          rintro e wn ⟨rfl, hb⟩
          replace hI := hI.call hb
          clear hb fx
          have fx := hI.facts
          simp only [factsOf, cellsOf, Nat.zero_add, Nat.reduceAdd] at fx
          by_cases h4 : c4 ≤ 0
          · go_wp2_with fail
            refine (C4.out _ hI.bel).mono ?_
            rintro e wn ⟨rfl, hb⟩
            replace hI := hI.call hb
            clear hb fx
            have fx := hI.facts
            simp only [factsOf, cellsOf, Nat.zero_add, Nat.reduceAdd] at fx
            have HP := Lib.hid (HE1.out (fun h => by obtain ⟨_, a2, a3, a4, a5⟩ := HG.out.mp h; omega))
            go_wp2
            go_ret
            exact ⟨1, rfl, HP.out, hI.bel⟩
          · go_wp2_with fail
            refine (C4.out _ hI.bel).mono ?_
            rintro e wn ⟨rfl, hb⟩
            replace hI := hI.call hb
            clear hb fx
            have fx := hI.facts
            simp only [factsOf, cellsOf, Nat.zero_add, Nat.reduceAdd] at fx
            have HGD := Lib.hid (HG.out.mpr ⟨Hsm.out, h1, h2, h3, h4⟩)
            clear C1 C2 C3 C4
            go_wp2_with fail
            refine (HPC.out _ hI.bel).mono ?_
            rintro e wn ⟨ce, rfl, hce, hb⟩
            replace hI := hI.call hb
            clear hb fx
            have fx := hI.facts
            simp only [factsOf, cellsOf, Nat.zero_add, Nat.reduceAdd] at fx
            by_cases h0 : ce = 0
            · subst h0
              have HC0 := Lib.hid hce
              clear hce
              have hl8 := HC0.out.ok8.2.1
              have hst := Lib.hid (show LcRel w [(g, 28, #[.bool klen.neg, .string klen.num, .string klen.den, .bool klow.neg, .string klow.num, .string klow.den, .bool khigh.neg, .string khigh.num, .string khigh.den, .bool kspeed.neg, .string kspeed.num, .string kspeed.den, .bool kbrake.neg, .string kbrake.num, .string kbrake.den, .slice A l.length c])] l (.int .i64 0) wn from ⟨0, Nat.zero_le _, rfl, fun j x hj => absurd hj (Nat.not_lt_zero j), hI⟩)
              clear hI
              go_wp2_with fail
              clear fx
              go_loopw [52] (fun i wr => LcRel w [(g, 28, #[.bool klen.neg, .string klen.num, .string klen.den, .bool klow.neg, .string klow.num, .string klow.den, .bool khigh.neg, .string khigh.num, .string khigh.den, .bool kspeed.neg, .string kspeed.num, .string kspeed.den, .bool kbrake.neg, .string kbrake.num, .string kbrake.den, .slice A l.length c])] l i wr) (fun i _ => l.length - (intOf i).toNat)
              case atStart => exact hst.out
              case round =>
                clear hst
                obtain ⟨i, hi, rfl, hok, hI⟩ := hrel
                by_cases hin : i < l.length
                · have hi1 : (i : Int) < (l.length : Int) := by omega
                  have hi2 : 0 ≤ (i : Int) ∧ (i : Int) < (l.length : Int) := by omega
                  obtain ⟨a, ha⟩ : ∃ a, l[i]? = some a := ⟨_, List.getElem?_eq_getElem hin⟩
                  obtain ⟨b, o, rfl, hbB, e0, e1, e2, e3, e4, e5⟩ := Rd.pt HRD.out ha
                  have d0 := (hI.bel.cell (p := ⟨b, o + i * 6, none⟩) hbB).trans e0
                  have d1 := (hI.bel.cell (p := ⟨b, o + i * 6 + 1, none⟩) hbB).trans e1
                  have d2 := (hI.bel.cell (p := ⟨b, o + i * 6 + 2, none⟩) hbB).trans e2
                  have d3 := (hI.bel.cell (p := ⟨b, o + i * 6 + 3, none⟩) hbB).trans e3
                  have d4 := (hI.bel.cell (p := ⟨b, o + i * 6 + 4, none⟩) hbB).trans e4
                  have d5 := (hI.bel.cell (p := ⟨b, o + i * 6 + 5, none⟩) hbB).trans e5
                  have hbn : b < wr.heap.size := Nat.lt_of_lt_of_le hbB hI.bel.size
                  have HOK := Lib.hid hok
                  have HAI := Lib.hid ha
                  have HAL := Lib.hid (HL.out a (List.mem_of_getElem? ha))
                  have hwi : IntKind.i64.wrap ((i : Int) + 1) = (i : Int) + 1 := by rw [IntKind.wrap_i64]; omega
                  have HSM2 := Lib.hid (fun W (hW : Below w.heap.size w W) v (hv : SlQ W W.heap.size v [a.x, a.y]) => smalls_any W (tabs w HT.out hW) v [a.x, a.y] (N := N) hv (by
                    intro x hx
                    simp only [List.mem_cons, List.not_mem_nil, or_false] at hx
                    rcases hx with rfl | rfl
                    · exact HAL.out.1
                    · exact HAL.out.2) (by omega) (by simp))
                  replace hI := hI.alloc 30 #[.bool a.x.neg, .string a.x.num, .string a.x.den, .bool a.y.neg, .string a.y.num, .string a.y.den]
                  clear e0 e1 e2 e3 e4 e5 ha hok
                  go_upto_region 11 with (fail)
                  clear d0 d1 d2 d3 d4 d5 hbn
                  generalize wr.heap.size = g2 at hI ⊢
                  generalize World.alloc _ _ = W2 at hI ⊢
                  have fx := hI.facts
                  simp only [factsOf, cellsOf, Nat.zero_add, Nat.reduceAdd] at fx
                  go_wp2_with fail
                  have hJ := hI.alloc 25 #[.bool a.x.neg, .string a.x.num, .string a.x.den, .bool a.y.neg, .string a.y.num, .string a.y.den]
                  have HQ2 := Lib.hid (HSM2.out _ hJ.bel _ (hJ.slq (k := 0) rfl [a.x, a.y] rfl))
                  by_cases hps : AllSmall [a.x, a.y]
                  · rw [decide_eq_true hps] at HQ2
                    have HRR := Lib.hid (show ∀ W, In w _ W → LcRel w [(g, 28, #[.bool klen.neg, .string klen.num, .string klen.den, .bool klow.neg, .string klow.num, .string klow.den, .bool khigh.neg, .string khigh.num, .string khigh.den, .bool kspeed.neg, .string kspeed.num, .string kspeed.den, .bool kbrake.neg, .string kbrake.num, .string kbrake.den, (.slice (some ⟨b, o, none⟩) l.length c)])] l (.int .i64 ((i : Int) + 1)) W from fun W hW => ⟨i + 1, hin, by simp, fun j y hj hy => by
                      rcases Nat.lt_or_ge j i with h | h
                      · exact HOK.out j y h hy
                      · rw [show j = i by omega, HAI.out] at hy; cases hy; exact hps, hW⟩)
                    clear hps
                    refine HQ2.out.mono ?_
                    rintro e wn ⟨rfl, hb⟩
                    replace hI := (hJ.call hb).tail
                    clear hb fx hJ HQ2
                    have HX := Lib.hid (HRR.out _ hI.tail)
                    go_wp2_with fail
                    go_roundw
                    case rel => exact HX.out
                    case measure => simp [intOf]; omega
                  · rw [decide_eq_false hps] at HQ2
                    have HP := Lib.hid (HE3.out HGD.out HC0.out (fun h => hps (h a (List.mem_of_getElem? HAI.out))))
                    clear hps
                    refine HQ2.out.mono ?_
                    rintro e wn ⟨rfl, hb⟩
                    replace hI := (hJ.call hb).tail
                    clear hb fx hJ HQ2
                    go_wp2
                    go_ret
                    exact ⟨1, rfl, HP.out, hI.bel⟩
                · obtain rfl : i = l.length := by omega
                  have hi1 : ¬ (l.length : Int) < (l.length : Int) := by omega
                  have HP := Lib.hid (HE4.out HGD.out HC0.out (fun x hx => by
                    obtain ⟨j, hj, rfl⟩ := List.getElem_of_mem hx
                    exact hok j _ hj (List.getElem?_eq_getElem hj)))
                  clear hok
                  go_wp2
                  go_ret
                  exact ⟨0, rfl, HP.out, hI.bel⟩
            · have h01 : (ce == 0) = false := by simpa using h0
              have h02 : (ce != 0) = true := by simpa using h0
              have HP := Lib.hid (HE2.out HGD.out ce hce h0)
              clear hce
              go_wp2
              go_ret
              exact ⟨ce, rfl, HP.out, hI.bel⟩
  · rw [decide_eq_false hsm] at HQ
    have HP := Lib.hid (HE1.out (fun h => hsm (HG.out.mp h).1))
    clear hsm
    refine HQ.out.mono ?_
    rintro e wn ⟨rfl, hb⟩
    replace hI := (hJ.call hb).tail
    clear hb fx hJ HQ
    go_wp2
    go_ret
    exact ⟨1, rfl, HP.out, hI.bel⟩
end Go.Proofs.YtnnbnecpcppkdaaDoor
