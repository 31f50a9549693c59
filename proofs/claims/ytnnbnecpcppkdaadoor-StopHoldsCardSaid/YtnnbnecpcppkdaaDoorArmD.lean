/- arm.Check, stop.fits. Conditions: those typed. -/
import Derived.Test.YtnnbnecpcppkdaaDoorArmC
namespace Go.Proofs.YtnnbnecpcppkdaaDoor
open Go.RowKit Go.Gy
set_option linter.unusedVariables false
/-- the loop over the links -/
def AcRel (w : World) (ls : List (Nat × TypeId × Array Value)) (L : List (Lk × List P2)) (i : Value) (wr : World) : Prop := ∃ k : Nat, k ≤ L.length ∧ i = .int .i64 k ∧ (∀ e, LinksE (L.drop k) e → LinksE L e) ∧ In w ls wr
set_option maxRecDepth 100000 in
set_option maxHeartbeats 8000000 in
theorem armCheck_any (w : World) (hT : TabW w) (a : Ar) {N : Nat} (hA : a.At w w.heap.size) (hle : a.le N) (hN : 1 ≤ N ∧ N ≤ 68719476736) :
    Calls Tryd.prog 45 #[a.val] w fun r w' => ∃ e, r = .returned (.int .i64 e) ∧ ArmE a e ∧ Below w.heap.size w w' := by
  have HT := Lib.hid hT
  obtain ⟨nm, ⟨px, py⟩, hf, t, v, L⟩ := a
  obtain ⟨hsl, hshp⟩ := hA
  obtain ⟨A, n, c, hv, hln, hnc, hA0, hrd⟩ := hsl
  obtain rfl : v = .slice A n c := hv
  obtain rfl : L.length = n := (Ar.ks_len _).symm.trans hln
  have HRD := Lib.hid hrd
  have HSH := Lib.hid (show ∀ x ∈ L, SlP w w.heap.size x.1.shape x.2 from hshp)
  obtain ⟨⟨lx, ly⟩, lt, lnm, lL⟩ := hle
  have lx : px.le N := lx
  have ly : py.le N := ly
  have lt : t.le N := lt
  have HLL := Lib.hid (show ∀ x ∈ L, x.1.le N ∧ (∀ y ∈ x.2, y.le N) ∧ x.2.length ≤ N from lL)
  have lnm : nm.size ≤ N := lnm
  have HKS := Lib.hid (show ∀ i : Nat, (L.map (·.1))[i]? = (L[i]?).map (·.1) from fun i => List.getElem?_map)
  have HSM := Lib.hid (fun W (hW : Below w.heap.size w W) v (hv : SlQ W W.heap.size v [px, py, t]) => smalls_any W (tabs w HT.out hW) v [px, py, t] (N := N) hv (by
    intro x hx
    simp only [List.mem_cons, List.not_mem_nil, or_false] at hx
    rcases hx with rfl | rfl | rfl <;> assumption) (by omega) (by simp))
  obtain ⟨c1, _, p1, p2, C1⟩ := signR w hT t lt
  have HC0 := Lib.hid (show c1 = 0 ↔ t.q = 0 by
    constructor
    · intro h
      have h1 : ¬ 0 < t.q := fun h2 => by have := p1.mpr h2; omega
      have h2 : ¬ t.q < 0 := fun h2 => by have := p2.mpr h2; omega
      grind
    · intro h
      have h1 : ¬ 0 < c1 := fun h2 => by have := p1.mp h2; grind
      have h2 : ¬ c1 < 0 := fun h2 => by have := p2.mp h2; grind
      omega)
  obtain ⟨ar, har⟩ : ∃ ar : Ar, ar = ⟨nm, ⟨px, py⟩, hf, t, .slice A L.length c, L⟩ := ⟨_, rfl⟩
  have HE1 := Lib.hid (show ¬ NameP nm → ArmE ar 3 from fun h => by subst har; exact .inl ⟨h, rfl⟩)
  have HE2 := Lib.hid (show NameP nm → L.length > 3 → ArmE ar 2 from fun h h2 => by subst har; exact .inr (.inl ⟨h, h2, rfl⟩))
  have HE3 := Lib.hid (show NameP nm → L.length ≤ 3 → (L.length = 0 ∨ ¬ AllSmall [px, py, t] ∨ (hf = true ∧ t.q ≠ 0)) → ArmE ar 1 from fun h h2 h3 => by
    subst har
    refine .inr (.inr (.inl ⟨h, h2, ?_, rfl⟩))
    rcases h3 with h3 | h3 | h3
    · exact .inl h3
    · exact .inr fun h4 => h3 h4.1
    · exact .inr fun h4 => h4.2 h3)
  have HE4 := Lib.hid (show NameP nm → L.length ≤ 3 → L.length ≠ 0 → AllSmall [px, py, t] → ¬ (hf = true ∧ t.q ≠ 0) → ∀ e, LinksE L e → ArmE ar e from fun h h2 h3 h4 h5 e h6 => by
    subst har
    exact .inr (.inr (.inr ⟨h, h2, h3, ⟨h4, h5⟩, h6⟩)))
  have hval : ar.val = .agg #[.string nm, .bool px.neg, .string px.num, .string px.den, .bool py.neg, .string py.num, .string py.den, .bool hf, .bool t.neg, .string t.num, .string t.den, .slice A L.length c] := by rw [har]; rfl
  rw [← har, hval]
  have hI := (In.start w).alloc 37 #[.string nm, .bool px.neg, .string px.num, .string px.den, .bool py.neg, .string py.num, .string py.den, .bool hf, .bool t.neg, .string t.num, .string t.den, .slice A L.length c]
  obtain ⟨g, hg⟩ : ∃ g, g = w.heap.size := ⟨_, rfl⟩
  rw [← hg] at hI
  have hL48 : L.length ≤ L.length := Nat.le_refl _
  clear hrd hshp hT p1 p2 lx ly lt lL har hval hln
  go_enter Tryd.func45, Tryd.ntmps45
  go_upto_region 1 with (fail)
  rw [← hg]
  generalize World.alloc _ _ = W1 at hI ⊢
  clear hg
  have fx := hI.facts
  simp only [factsOf, cellsOf, Nat.zero_add, Nat.reduceAdd] at fx
  go_wp2_with fail
  refine (isname_any W1 nm (by omega)).mono ?_
  rintro e wn ⟨b, rfl, hb, rfl⟩
  cases b
  · have HP := Lib.hid (HE1.out (fun h => by have := hb.mpr h; cases this))
    clear hb
    go_wp2
    go_ret
    exact ⟨3, rfl, HP.out, hI.bel⟩
  · have HNM := Lib.hid (hb.mp rfl)
    clear hb
    by_cases h3 : L.length > 3
    · have HP := Lib.hid (HE2.out HNM.out h3)
      have h3i : (L.length : Int) > 3 := by omega
      go_wp2
      go_ret
      exact ⟨2, rfl, HP.out, hI.bel⟩
    · have h3i : ¬ (L.length : Int) > 3 := by omega
      have hJ := hI.alloc 34 #[.bool px.neg, .string px.num, .string px.den, .bool py.neg, .string py.num, .string py.den, .bool hf, .bool t.neg, .string t.num, .string t.den]
      go_upto_region 6 with (fail)
      generalize W1.heap.size = g2 at hJ ⊢
      clear hI fx
      generalize World.alloc _ _ = W2 at hJ ⊢
      have hI := hJ
      clear hJ
      have fx := hI.facts
      simp only [factsOf, cellsOf, Nat.zero_add, Nat.reduceAdd] at fx
      by_cases h0 : L.length = 0
      · have HP := Lib.hid (HE3.out HNM.out (by omega) (.inl h0))
        have h0i : ((L.length : Int) == 0) = true := by simp [h0]
        have h0j : (L.length : Int) = 0 := by omega
        clear h0
        go_wp2
        go_ret
        exact ⟨1, rfl, HP.out, hI.bel⟩
      · have h0i : ((L.length : Int) == 0) = false := by simpa using (fun h : (L.length : Int) = 0 => h0 (by omega))
        have h0j : ¬ (L.length : Int) = 0 := by omega
        have hne : ¬ L = [] := fun h => h0 (by rw [h]; rfl)
        go_wp2_with fail
        have hJ := hI.alloc 25 #[.bool px.neg, .string px.num, .string px.den, .bool py.neg, .string py.num, .string py.den, .bool t.neg, .string t.num, .string t.den]
        have HQ := Lib.hid (HSM.out _ hJ.bel _ (hJ.slq (k := 0) rfl [px, py, t] rfl))
        by_cases hsm : AllSmall [px, py, t]
        · rw [decide_eq_true hsm] at HQ
          have Hsm := Lib.hid hsm
          clear hsm
          refine HQ.out.mono ?_
          rintro e wn ⟨rfl, hb⟩
          replace hI := (hJ.call hb).tail
          clear hb fx hJ HQ
          have fx := hI.facts
          simp only [factsOf, cellsOf, Nat.zero_add, Nat.reduceAdd] at fx
          have h00 := h0
          clear h0
          cases hf
          · have HB := Lib.hid (show ¬ (false = true ∧ t.q ≠ 0) from fun h => by cases h.1)
            have hst := Lib.hid (show AcRel w [(g2, 34, #[.bool px.neg, .string px.num, .string px.den, .bool py.neg, .string py.num, .string py.den, .bool false, .bool t.neg, .string t.num, .string t.den]), (g, 37, #[.string nm, .bool px.neg, .string px.num, .string px.den, .bool py.neg, .string py.num, .string py.den, .bool false, .bool t.neg, .string t.num, .string t.den, .slice A L.length c])] L (.int .i64 0) wn from ⟨0, Nat.zero_le _, rfl, fun e he => by simpa using he, hI⟩)
            clear hI
            go_wp2_with fail
            clear fx
            go_loopw [50] (fun i wr => AcRel w [(g2, 34, #[.bool px.neg, .string px.num, .string px.den, .bool py.neg, .string py.num, .string py.den, .bool false, .bool t.neg, .string t.num, .string t.den]), (g, 37, #[.string nm, .bool px.neg, .string px.num, .string px.den, .bool py.neg, .string py.num, .string py.den, .bool false, .bool t.neg, .string t.num, .string t.den, .slice A L.length c])] L i wr) (fun i _ => L.length - (intOf i).toNat)
            case atStart => exact hst.out
            case round =>
              as_aux_lemma =>
                clear hst
                obtain ⟨i, hi, rfl, hok, hI⟩ := hrel
                by_cases hin : i < L.length
                · have hi1 : (i : Int) < (L.length : Int) := by omega
                  have hi2 : 0 ≤ (i : Int) ∧ (i : Int) < (L.length : Int) := by omega
                  obtain ⟨⟨⟨klen, klow, khigh, kspeed, kbrake, kshape⟩, pts⟩, ha⟩ : ∃ x, L[i]? = some x := ⟨_, List.getElem?_eq_getElem hin⟩
                  obtain ⟨A5, n5, c5, hk5, _⟩ := HSH.out _ (List.mem_of_getElem? ha)
                  obtain rfl : kshape = .slice A5 n5 c5 := hk5
                  obtain ⟨b, o, rfl, hbB, hlc⟩ := Rd.lnk HRD.out (i := i) (k := ⟨klen, klow, khigh, kspeed, kbrake, .slice A5 n5 c5⟩) (by
                    show (L.map (·.1))[i]? = _
                    rw [HKS.out, ha]; rfl)
                  obtain ⟨f0, f1, f2, f3, f4, f5, f6, f7, f8, f9, f10, f11, f12, f13, f14, f15⟩ := hlc.below hI.bel hbB
                  have hbn : b < wr.heap.size := Nat.lt_of_lt_of_le hbB hI.bel.size
                  have HOK := Lib.hid hok
                  have HAI := Lib.hid ha
                  have hmem := List.mem_of_getElem? ha
                  have HLC := Lib.hid (fun W (hW : Below w.heap.size w W) => linkCheck_any W (tabs w HT.out hW) ⟨klen, klow, khigh, kspeed, kbrake, .slice A5 n5 c5⟩ pts (N := N) (HLL.out _ hmem).1 (((HSH.out _ hmem).below hW).more hW.size) (HLL.out _ hmem).2.1 hN)
                  have hwi : IntKind.i64.wrap ((i : Int) + 1) = (i : Int) + 1 := by rw [IntKind.wrap_i64]; omega
                  replace hI := hI.alloc 28 #[.bool klen.neg, .string klen.num, .string klen.den, .bool klow.neg, .string klow.num, .string klow.den, .bool khigh.neg, .string khigh.num, .string khigh.den, .bool kspeed.neg, .string kspeed.num, .string kspeed.den, .bool kbrake.neg, .string kbrake.num, .string kbrake.den, .slice A5 n5 c5]
                  clear hlc ha hok hmem
                  go_upto_region 11 with (fail)
                  clear f0 f1 f2 f3 f4 f5 f6 f7 f8 f9 f10 f11 f12 f13 f14 f15 hbn
                  generalize wr.heap.size = g3 at hI ⊢
                  generalize World.alloc _ _ = W3 at hI ⊢
                  have fx := hI.facts
                  simp only [factsOf, cellsOf, Nat.zero_add, Nat.reduceAdd] at fx
                  go_wp2_with fail
                  refine (HLC.out _ hI.bel).mono ?_
                  rintro e wn ⟨ce, rfl, hce, hb⟩
                  replace hI := hI.call hb
                  clear hb fx HLC
                  by_cases h0 : ce = 0
                  · subst h0
                    have HRR := Lib.hid (show ∀ W, In w _ W → AcRel w [(g2, 34, #[.bool px.neg, .string px.num, .string px.den, .bool py.neg, .string py.num, .string py.den, .bool false, .bool t.neg, .string t.num, .string t.den]), (g, 37, #[.string nm, .bool px.neg, .string px.num, .string px.den, .bool py.neg, .string py.num, .string py.den, .bool false, .bool t.neg, .string t.num, .string t.den, .slice (some ⟨b, o, none⟩) L.length c])] L (.int .i64 ((i : Int) + 1)) W from fun W hW => ⟨i + 1, hin, by simp, fun e he => HOK.out e (LinksE.step HAI.out hce he), hW⟩)
                    clear hce
                    have HX := Lib.hid (HRR.out _ hI.tail)
                    go_wp2_with fail
                    go_roundw
                    case rel => exact HX.out
                    case measure => simp [intOf]; omega
                  · have h01 : (ce == 0) = false := by simpa using h0
                    have h02 : (ce != 0) = true := by simpa using h0
                    have HP := Lib.hid (HE4.out HNM.out (by omega) h00 Hsm.out HB.out ce (HOK.out ce (LinksE.stop HAI.out hce h0)))
                    clear hce
                    go_wp2
                    go_ret
                    exact ⟨ce, rfl, HP.out, hI.bel⟩
                · obtain rfl : i = L.length := by omega
                  have hi1 : ¬ (L.length : Int) < (L.length : Int) := by omega
                  have HP := Lib.hid (HE4.out HNM.out (by omega) h00 Hsm.out HB.out 0 (hok 0 (by rw [List.drop_length]; rfl)))
                  clear hok
                  go_wp2
                  go_ret
                  exact ⟨0, rfl, HP.out, hI.bel⟩
          · by_cases hc1 : c1 = 0
            · have HB := Lib.hid (show ¬ (true = true ∧ t.q ≠ 0) from fun h => h.2 (HC0.out.mp hc1))
              subst hc1
              go_wp2_with fail
              refine (C1.out _ hI.bel).mono ?_
              rintro e wn ⟨rfl, hb⟩
              replace hI := hI.call hb
              clear hb fx
              have fx := hI.facts
              simp only [factsOf, cellsOf, Nat.zero_add, Nat.reduceAdd] at fx
              have hst := Lib.hid (show AcRel w [(g2, 34, #[.bool px.neg, .string px.num, .string px.den, .bool py.neg, .string py.num, .string py.den, .bool true, .bool t.neg, .string t.num, .string t.den]), (g, 37, #[.string nm, .bool px.neg, .string px.num, .string px.den, .bool py.neg, .string py.num, .string py.den, .bool true, .bool t.neg, .string t.num, .string t.den, .slice A L.length c])] L (.int .i64 0) wn from ⟨0, Nat.zero_le _, rfl, fun e he => by simpa using he, hI⟩)
              clear hI
              go_wp2_with fail
              clear fx
              go_loopw [50] (fun i wr => AcRel w [(g2, 34, #[.bool px.neg, .string px.num, .string px.den, .bool py.neg, .string py.num, .string py.den, .bool true, .bool t.neg, .string t.num, .string t.den]), (g, 37, #[.string nm, .bool px.neg, .string px.num, .string px.den, .bool py.neg, .string py.num, .string py.den, .bool true, .bool t.neg, .string t.num, .string t.den, .slice A L.length c])] L i wr) (fun i _ => L.length - (intOf i).toNat)
              case atStart => exact hst.out
              case round =>
                as_aux_lemma =>
                  clear hst
                  obtain ⟨i, hi, rfl, hok, hI⟩ := hrel
                  by_cases hin : i < L.length
                  · have hi1 : (i : Int) < (L.length : Int) := by omega
                    have hi2 : 0 ≤ (i : Int) ∧ (i : Int) < (L.length : Int) := by omega
                    obtain ⟨⟨⟨klen, klow, khigh, kspeed, kbrake, kshape⟩, pts⟩, ha⟩ : ∃ x, L[i]? = some x := ⟨_, List.getElem?_eq_getElem hin⟩
                    obtain ⟨A5, n5, c5, hk5, _⟩ := HSH.out _ (List.mem_of_getElem? ha)
                    obtain rfl : kshape = .slice A5 n5 c5 := hk5
                    obtain ⟨b, o, rfl, hbB, hlc⟩ := Rd.lnk HRD.out (i := i) (k := ⟨klen, klow, khigh, kspeed, kbrake, .slice A5 n5 c5⟩) (by
                      show (L.map (·.1))[i]? = _
                      rw [HKS.out, ha]; rfl)
                    obtain ⟨f0, f1, f2, f3, f4, f5, f6, f7, f8, f9, f10, f11, f12, f13, f14, f15⟩ := hlc.below hI.bel hbB
                    have hbn : b < wr.heap.size := Nat.lt_of_lt_of_le hbB hI.bel.size
                    have HOK := Lib.hid hok
                    have HAI := Lib.hid ha
                    have hmem := List.mem_of_getElem? ha
                    have HLC := Lib.hid (fun W (hW : Below w.heap.size w W) => linkCheck_any W (tabs w HT.out hW) ⟨klen, klow, khigh, kspeed, kbrake, .slice A5 n5 c5⟩ pts (N := N) (HLL.out _ hmem).1 (((HSH.out _ hmem).below hW).more hW.size) (HLL.out _ hmem).2.1 hN)
                    have hwi : IntKind.i64.wrap ((i : Int) + 1) = (i : Int) + 1 := by rw [IntKind.wrap_i64]; omega
                    replace hI := hI.alloc 28 #[.bool klen.neg, .string klen.num, .string klen.den, .bool klow.neg, .string klow.num, .string klow.den, .bool khigh.neg, .string khigh.num, .string khigh.den, .bool kspeed.neg, .string kspeed.num, .string kspeed.den, .bool kbrake.neg, .string kbrake.num, .string kbrake.den, .slice A5 n5 c5]
                    clear hlc ha hok hmem
                    go_upto_region 11 with (fail)
                    clear f0 f1 f2 f3 f4 f5 f6 f7 f8 f9 f10 f11 f12 f13 f14 f15 hbn
                    generalize wr.heap.size = g3 at hI ⊢
                    generalize World.alloc _ _ = W3 at hI ⊢
                    have fx := hI.facts
                    simp only [factsOf, cellsOf, Nat.zero_add, Nat.reduceAdd] at fx
                    go_wp2_with fail
                    refine (HLC.out _ hI.bel).mono ?_
                    rintro e wn ⟨ce, rfl, hce, hb⟩
                    replace hI := hI.call hb
                    clear hb fx HLC
                    by_cases h0 : ce = 0
                    · subst h0
                      have HRR := Lib.hid (show ∀ W, In w _ W → AcRel w [(g2, 34, #[.bool px.neg, .string px.num, .string px.den, .bool py.neg, .string py.num, .string py.den, .bool true, .bool t.neg, .string t.num, .string t.den]), (g, 37, #[.string nm, .bool px.neg, .string px.num, .string px.den, .bool py.neg, .string py.num, .string py.den, .bool true, .bool t.neg, .string t.num, .string t.den, .slice (some ⟨b, o, none⟩) L.length c])] L (.int .i64 ((i : Int) + 1)) W from fun W hW => ⟨i + 1, hin, by simp, fun e he => HOK.out e (LinksE.step HAI.out hce he), hW⟩)
                      clear hce
                      have HX := Lib.hid (HRR.out _ hI.tail)
                      go_wp2_with fail
                      go_roundw
                      case rel => exact HX.out
                      case measure => simp [intOf]; omega
                    · have h01 : (ce == 0) = false := by simpa using h0
                      have h02 : (ce != 0) = true := by simpa using h0
                      have HP := Lib.hid (HE4.out HNM.out (by omega) h00 Hsm.out HB.out ce (HOK.out ce (LinksE.stop HAI.out hce h0)))
                      clear hce
                      go_wp2
                      go_ret
                      exact ⟨ce, rfl, HP.out, hI.bel⟩
                  · obtain rfl : i = L.length := by omega
                    have hi1 : ¬ (L.length : Int) < (L.length : Int) := by omega
                    have HP := Lib.hid (HE4.out HNM.out (by omega) h00 Hsm.out HB.out 0 (hok 0 (by rw [List.drop_length]; rfl)))
                    clear hok
                    go_wp2
                    go_ret
                    exact ⟨0, rfl, HP.out, hI.bel⟩
            · have h01 : (c1 == 0) = false := by simpa using hc1
              have h02 : (c1 != 0) = true := by simpa using hc1
              have HP := Lib.hid (HE3.out HNM.out (by omega) (.inr (.inr ⟨rfl, fun h => hc1 (HC0.out.mpr h)⟩)))
              go_wp2_with fail
              refine (C1.out _ hI.bel).mono ?_
              rintro e wn ⟨rfl, hb⟩
              replace hI := hI.call hb
              clear hb fx
              have fx := hI.facts
              simp only [factsOf, cellsOf, Nat.zero_add, Nat.reduceAdd] at fx
              go_wp2
              go_ret
              exact ⟨1, rfl, HP.out, hI.bel⟩
        · rw [decide_eq_false hsm] at HQ
          have HP := Lib.hid (HE3.out HNM.out (by omega) (.inr (.inl hsm)))
          clear hsm
          refine HQ.out.mono ?_
          rintro e wn ⟨rfl, hb⟩
          replace hI := (hJ.call hb).tail
          clear hb fx hJ HQ
          go_wp2
          go_ret
          exact ⟨1, rfl, HP.out, hI.bel⟩
end Go.Proofs.YtnnbnecpcppkdaaDoor
