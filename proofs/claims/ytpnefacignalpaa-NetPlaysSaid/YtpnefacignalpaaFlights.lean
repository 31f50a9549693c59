/- gantref5.Flights, walked. Conditions: those typed. -/
import Derived.Test.YtpnefacignalpaaNetT
namespace Go.Proofs.Ytpnefacignalpaa
open Go.RowKit Go.Gy
set_option linter.unusedVariables false
set_option linter.unusedSimpArgs false
/-- lost, twice, how late -/
def refF (tick src : Int) (s : Bool × Bool × Int) (f : GF) : Bool × Bool × Int :=
  if f.1 ≠ tick then s else (s.1 || (decide (f.2.1 = 0) && decide (f.2.2 = src)), s.2.1 || (decide (f.2.1 = 1) && decide (f.2.2 = src)), if f.2.1 = 2 ∧ f.2.2 ≤ 2000 ∧ s.2.2 < f.2.2 then f.2.2 else s.2.2)
def refP (tick src : Int) (FS : List GF) : Bool × Bool × Int := FS.foldl (refF tick src) (false, false, 0)
def toPlan (s : Bool × Bool × Int) : Nat × Int := (if s.1 then 0 else if s.2.1 then 2 else 1, s.2.2)
theorem refF_step {tick src : Int} {s : Bool × Bool × Int} {f : GF} (h : 0 ≤ s.2.2) : toPlan (refF tick src s f) = stepF tick src (toPlan s) f ∧ 0 ≤ (refF tick src s f).2.2 := by
  obtain ⟨lo, tw, la⟩ := s
  obtain ⟨a, b, c⟩ := f
  unfold refF stepF
  simp only at h ⊢
  by_cases h1 : a ≠ tick
  · rw [if_pos h1, if_pos h1]; exact ⟨rfl, h⟩
  · rw [if_neg h1, if_neg h1]
    by_cases h2 : b = 0
    · subst h2
      rw [if_neg (show ¬ ((0 : Int) = 2 ∧ c ≤ 2000 ∧ la < c) from fun h => by omega)]
      by_cases h3 : c = src
      · subst h3
        rw [if_pos ⟨rfl, rfl⟩]
        exact ⟨by unfold toPlan; simp, h⟩
      · rw [if_neg (fun h => h3 h.2), if_neg (fun h => by omega), if_neg (fun h => by omega)]
        exact ⟨by unfold toPlan; simp [h3], h⟩
    · rw [if_neg (show ¬ (b = 0 ∧ c = src) from fun h => h2 h.1)]
      by_cases h4 : b = 1
      · subst h4
        rw [if_neg (show ¬ ((1 : Int) = 2 ∧ c ≤ 2000 ∧ la < c) from fun h => by omega)]
        by_cases h3 : c = src
        · subst h3
          rw [if_pos ⟨rfl, rfl⟩]
          refine ⟨?_, h⟩
          unfold toPlan
          cases lo <;> cases tw <;> simp
        · rw [if_neg (fun h => h3 h.2), if_neg (fun h => by omega)]
          exact ⟨by unfold toPlan; simp [h3], h⟩
      · rw [if_neg (show ¬ (b = 1 ∧ c = src) from fun h => h4 h.1)]
        by_cases h5 : b = 2
        · subst h5
          by_cases h6 : 0 < c ∧ c ≤ 2000
          · by_cases h7 : la < c
            · have hmx : max la c = c := by omega
              exact ⟨by simp [toPlan, h6.1, h6.2, h7, hmx], by simp [h6.2, h7]; omega⟩
            · have hmx : max la c = la := by omega
              exact ⟨by simp [toPlan, h6.1, h6.2, h7, hmx], by simp [h7]; exact h⟩
          · have h8 : ¬ (c ≤ 2000 ∧ la < c) := by omega
            have h9 : ¬ (0 < c ∧ c ≤ 2000) := h6
            refine ⟨?_, ?_⟩
            · rw [if_neg (fun h => h8 h.2), if_neg (fun h => h9 h.2)]
              simp [toPlan]
            · rw [if_neg (fun h => h8 h.2)]
              exact h
        · rw [if_neg (fun h => h5 h.1), if_neg (fun h => h5 h.1)]
          exact ⟨by unfold toPlan; simp [h2, h4], h⟩
theorem refP_fold {tick src : Int} : ∀ (FS : List GF) (s : Bool × Bool × Int), 0 ≤ s.2.2 → toPlan (FS.foldl (refF tick src) s) = FS.foldl (stepF tick src) (toPlan s)
  | [], s, h => rfl
  | f :: FS, s, h => by
    rw [List.foldl_cons, List.foldl_cons, refP_fold FS _ (refF_step h).2, (refF_step h).1]
theorem refP_plan (tick src : Int) (FS : List GF) : toPlan (refP tick src FS) = planF tick src FS := refP_fold FS _ (by simp)
theorem refP_take {tick src : Int} {FS : List GF} {j : Nat} {f : GF} (h : FS[j]? = some f) : refP tick src (FS.take (j + 1)) = refF tick src (refP tick src (FS.take j)) f := by
  obtain ⟨hj, rfl⟩ := List.getElem?_eq_some_iff.1 h
  unfold refP
  rw [List.take_succ_eq_append_getElem hj, List.foldl_append]
  rfl
theorem refP_le (tick src : Int) (FS : List GF) : 0 ≤ (refP tick src FS).2.2 ∧ (refP tick src FS).2.2 ≤ 2000 := by
  have h1 := congrArg Prod.snd (refP_plan tick src FS)
  have h2 := planF_le tick src FS
  have h3 : (toPlan (refP tick src FS)).2 = (refP tick src FS).2.2 := rfl
  omega
def FlRel (w1 : World) (FS : List GF) (tick src : Int) (nf : Nat) (lo tw la idx : Value) (wr : World) : Prop := ∃ j : Nat, j ≤ nf ∧ idx = .int .i64 j ∧ lo = .bool (refP tick src (FS.take j)).1 ∧ tw = .bool (refP tick src (FS.take j)).2.1 ∧ la = .int .i64 (refP tick src (FS.take j)).2.2 ∧ Below w1.heap.size w1 wr
theorem fl_next {FS : List GF} {tick src : Int} {j nf : Nat} {f : GF} {w1 wr : World} {s : Bool × Bool × Int} (hf : FS[j]? = some f) (hj : j < nf) (hs : refF tick src (refP tick src (FS.take j)) f = s) (hb : Below w1.heap.size w1 wr) :
    FlRel w1 FS tick src nf (.bool s.1) (.bool s.2.1) (.int .i64 s.2.2) (.int .i64 ((j : Int) + 1)) wr :=
  ⟨j + 1, hj, by simp, by rw [refP_take hf, hs], by rw [refP_take hf, hs], by rw [refP_take hf, hs], hb⟩
/-- a flight's cells -/
def encFl (x : SE) : List Value := encS x
def FlPost (w : World) (FS : List GF) (tick : Int) (m : GMsg) (A : Option Addr) (n c : Nat) (e : Ending) (w' : World) : Prop := ∃ v, e = .returned v ∧ w'.ownsRow w.heap.size 86 7 v (flightsF FS tick m).length ((List.replicate (flightsF FS tick m).length ((tick + 1 + (planF tick m.src FS).2, ⟨m, A, n, c⟩) : SE)).flatMap encS) ∧ Below w.heap.size w w'
set_option maxRecDepth 100000 in
set_option maxHeartbeats 4000000 in
theorem flights_any (w : World) (Af : Option Addr) (nf cf : Nat) (FS : List GF) (hfl : FS.length = nf) (hnf : nf ≤ 9223372036854775807) (hrf : Rd w w.heap.size 3 Af nf (FS.flatMap encF)) (tick : Int) (ht : 0 ≤ tick ∧ tick ≤ 2000) (m : GMsg) (A : Option Addr) (n c : Nat) :
    Calls Try.prog 20 #[.slice Af nf cf, .int .i64 tick, msgV m A n c] w (FlPost w FS tick m A n c) := by
  obtain ⟨mk, ms, md, mq, mc, ml⟩ := m
  have hm1 := Blk.new w 43 #[.int .i64 mk, .int .i64 ms, .int .i64 md, .int .i64 mq, .int .u32 mc, .slice A n c]
  have hb1 : Below w.heap.size w (w.alloc (.cells #[.int .i64 mk, .int .i64 ms, .int .i64 md, .int .i64 mq, .int .u32 mc, .slice A n c] 43)) := (Below.refl _ _).alloc (Nat.le_refl _) _
  have hst := Lib.hid (show FlRel (w.alloc (.cells #[.int .i64 mk, .int .i64 ms, .int .i64 md, .int .i64 mq, .int .u32 mc, .slice A n c] 43)) FS tick ms nf (.bool false) (.bool false) (.int .i64 0) (.int .i64 0) (w.alloc (.cells #[.int .i64 mk, .int .i64 ms, .int .i64 md, .int .i64 mq, .int .u32 mc, .slice A n c] 43)) from ⟨0, Nat.zero_le _, rfl, rfl, rfl, rfl, Below.refl _ _⟩)
  have HFL := Lib.hid hfl
  have HRF := Lib.hid ((hrf.below hb1).more hb1.size)
  have HB1 := Lib.hid hb1
  have HM1 := Lib.hid hm1
  clear hfl hrf hb1 hm1
  go_enter Try.func20, Try.ntmps20
  go_upto_region 1 with (fail)
  generalize w.alloc (.cells #[.int .i64 mk, .int .i64 ms, .int .i64 md, .int .i64 mq, .int .u32 mc, .slice A n c] 43) = w2 at hst HRF HB1 HM1 ⊢
  have hbl2 := HM1.out.lt
  go_wp2_with fail
  go_loopw [7, 8, 9, 15] (fun lo tw la idx wr => FlRel w2 FS tick ms nf lo tw la idx wr) (fun _ _ _ idx _ => nf - (intOf idx).toNat)
  case atStart => exact hst.out
  case round =>
    clear hst
    obtain ⟨j, hj, rfl, rfl, rfl, rfl, hbr⟩ := hrel
    have hpl := refP_le tick ms (FS.take j)
    obtain ⟨⟨lo, tw, la⟩, hP⟩ : ∃ P, P = refP tick ms (FS.take j) := ⟨_, rfl⟩
    rw [← hP] at hpl ⊢
    have HP := Lib.hid hP
    simp only at hpl ⊢
    clear hP
    by_cases hlt : j < nf
    · as_aux_lemma =>
      have hji : (j : Int) < (nf : Int) := by omega
      obtain ⟨bf, of, ⟨fa, fb, fc⟩, rfl, hbB, hg, hcc⟩ := (HRF.out.below hbr).elem encF_len HFL.out hlt
      have x0 : wr.cell? ⟨bf, of + j * 3, none⟩ = some (.int .i64 fa) := hcc 0 _ rfl
      have x1 : wr.cell? ⟨bf, of + j * 3 + 1, none⟩ = some (.int .i64 fb) := hcc 1 _ rfl
      have x2 : wr.cell? ⟨bf, of + j * 3 + 2, none⟩ = some (.int .i64 fc) := hcc 2 _ rfl
      have HG := Lib.hid hg
      have HBR := Lib.hid hbr
      have HMR := Lib.hid (HM1.out.below hbr HM1.out.lt)
      have HSTEP := Lib.hid (fun (W : World) (s : Bool × Bool × Int) (hs : refF tick ms (lo, tw, la) (fa, fb, fc) = s) (hW : Below w2.heap.size w2 W) => fl_next (s := s) HG.out hlt (by rw [← HP.out]; exact hs) hW)
      have hjj : IntKind.i64.wrap ((j : Int) + 1) = (j : Int) + 1 := by rw [IntKind.wrap_i64]; omega
      clear hcc hg hbr
      go_upto_region 5 with (fail)
      have hk3 := Blk.new wr 66 #[.int .i64 fa, .int .i64 fb, .int .i64 fc]
      have hb3 : Below wr.heap.size wr (wr.alloc (.cells #[.int .i64 fa, .int .i64 fb, .int .i64 fc] 66)) := (Below.refl _ _).alloc (Nat.le_refl _) _
      generalize wr.alloc (.cells #[.int .i64 fa, .int .i64 fb, .int .i64 fc] 66) = w3 at hk3 hb3 ⊢
      have y0 := hk3.cell 0 _ rfl
      have y1 := hk3.cell 1 _ rfl
      have y2 := hk3.cell 2 _ rfl
      have z1 := (HMR.out.below hb3 HMR.out.lt).cell 1 _ rfl
      have HW3 := Lib.hid (HBR.out.trans (hb3.mono HBR.out.size))
      clear hk3 hb3 x0 x1 x2
      by_cases hat : fa = tick
      · subst hat
        by_cases hb0 : fb = 0
        · subst hb0
          by_cases hc0 : fc = ms
          · subst hc0
            have HX := Lib.hid (HSTEP.out w3 (true, tw, la) (by unfold refF; simp) HW3.out)
            cases lo <;> cases tw
            all_goals (go_wp2; go_roundw)
            all_goals first | exact HX.out | (simp [intOf]; omega)
          · have hq : (fc == ms) = false := by simpa using hc0
            have HX := Lib.hid (HSTEP.out w3 (lo, tw, la) (by unfold refF; simp [hc0]) HW3.out)
            cases lo <;> cases tw
            all_goals (go_wp2; go_roundw)
            all_goals first | exact HX.out | (simp [intOf]; omega)
        · have hq0 : (fb == 0) = false := by simpa using hb0
          by_cases hb1 : fb = 1
          · subst hb1
            by_cases hc0 : fc = ms
            · subst hc0
              have HX := Lib.hid (HSTEP.out w3 (lo, true, la) (by unfold refF; simp) HW3.out)
              cases lo <;> cases tw
              all_goals (go_wp2; go_roundw)
              all_goals first | exact HX.out | (simp [intOf]; omega)
            · have hq : (fc == ms) = false := by simpa using hc0
              have HX := Lib.hid (HSTEP.out w3 (lo, tw, la) (by unfold refF; simp [hc0]) HW3.out)
              cases lo <;> cases tw
              all_goals (go_wp2; go_roundw)
              all_goals first | exact HX.out | (simp [intOf]; omega)
          · have hq1 : (fb == 1) = false := by simpa using hb1
            by_cases hb2 : fb = 2
            · subst hb2
              by_cases hc1 : fc ≤ 2000
              · by_cases hc2 : la < fc
                · have HX := Lib.hid (HSTEP.out w3 (lo, tw, fc) (by unfold refF; simp [hc1, hc2]) HW3.out)
                  cases lo <;> cases tw
                  all_goals (go_wp2; go_roundw)
                  all_goals first | exact HX.out | (simp [intOf]; omega)
                · have HX := Lib.hid (HSTEP.out w3 (lo, tw, la) (by unfold refF; simp [hc1, hc2]) HW3.out)
                  cases lo <;> cases tw
                  all_goals (go_wp2; go_roundw)
                  all_goals first | exact HX.out | (simp [intOf]; omega)
              · have HX := Lib.hid (HSTEP.out w3 (lo, tw, la) (by unfold refF; simp [hc1]) HW3.out)
                cases lo <;> cases tw
                all_goals (go_wp2; go_roundw)
                all_goals first | exact HX.out | (simp [intOf]; omega)
            · have hq2 : (fb == 2) = false := by simpa using hb2
              have HX := Lib.hid (HSTEP.out w3 (lo, tw, la) (by unfold refF; simp [hb0, hb1, hb2]) HW3.out)
              cases lo <;> cases tw
              all_goals (go_wp2; go_roundw)
              all_goals first | exact HX.out | (simp [intOf]; omega)
      · have hq : (fa == tick) = false := by simpa using hat
        have HX := Lib.hid (HSTEP.out w3 (lo, tw, la) (by unfold refF; simp [hat]) HW3.out)
        go_wp2
        go_roundw
        case rel => exact HX.out
        case measure => simp [intOf]; omega
    · obtain rfl : j = nf := by omega
      have hPP : refP tick ms FS = (lo, tw, la) := by rw [HP.out, List.take_of_length_le (by rw [HFL.out]; exact Nat.le_refl _)]
      have hpn := refP_plan tick ms FS
      rw [hPP] at hpn
      have hbm := HM1.out.below hbr HM1.out.lt
      have y0 := hbm.cell 0 _ rfl
      have y1 := hbm.cell 1 _ rfl
      have y2 := hbm.cell 2 _ rfl
      have y3 := hbm.cell 3 _ rfl
      have y4 := hbm.cell 4 _ rfl
      have y5 := hbm.cell 5 _ rfl
      have hjn : ¬ (j : Int) < (j : Int) := by omega
      obtain ⟨due, hdue⟩ : ∃ due : Int, due = tick + 1 + la := ⟨_, rfl⟩
      have hw1 : IntKind.i64.wrap (tick + 1) = tick + 1 := by rw [IntKind.wrap_i64]; omega
      have hw2 : IntKind.i64.wrap (tick + 1 + la) = due := by rw [IntKind.wrap_i64]; omega
      have HD := Lib.hid (show (flightsF FS tick ⟨mk, ms, md, mq, mc, ml⟩).length = (if lo then 0 else if tw then 2 else 1) ∧ tick + 1 + (planF tick ms FS).2 = due from ⟨by rw [flightsF_len]; show (planF tick ms FS).1 = _; rw [← hpn]; rfl, by rw [← hpn, hdue]; rfl⟩)
      have HBR := Lib.hid (HB1.out.trans (hbr.mono HB1.out.size))
      have hz := HBR.out.size
      clear hPP hpn hbm hdue hbr hpl
      go_upto_region 12 with (fail)
      have hk := Blk.new wr 86 #[.int .i64 due, .int .i64 mk, .int .i64 ms, .int .i64 md, .int .i64 mq, .int .u32 mc, .slice A n c]
      have hbk : Below wr.heap.size wr (wr.alloc (.cells #[.int .i64 due, .int .i64 mk, .int .i64 ms, .int .i64 md, .int .i64 mq, .int .u32 mc, .slice A n c] 86)) := (Below.refl _ _).alloc (Nat.le_refl _) _
      generalize wr.alloc (.cells #[.int .i64 due, .int .i64 mk, .int .i64 ms, .int .i64 md, .int .i64 mq, .int .u32 mc, .slice A n c] 86) = w5 at hk hbk ⊢
      have z0 := hk.cell 0 _ rfl
      have z1 := hk.cell 1 _ rfl
      have z2 := hk.cell 2 _ rfl
      have z3 := hk.cell 3 _ rfl
      have z4 := hk.cell 4 _ rfl
      have z5 := hk.cell 5 _ rfl
      have z6 := hk.cell 6 _ rfl
      have HB5 := Lib.hid (HBR.out.trans (hbk.mono hz))
      have hz5 := HB5.out.size
      clear hk hbk y0 y1 y2 y3 y4 y5
      have HEND := Lib.hid (fun (k : Nat) (v : Value) (W : World) (hk : (flightsF FS tick ⟨mk, ms, md, mq, mc, ml⟩).length = k) (ho : W.ownsRow w.heap.size 86 7 v k ((List.replicate k ((due, ⟨⟨mk, ms, md, mq, mc, ml⟩, A, n, c⟩) : SE)).flatMap encS)) (hb : Below w.heap.size w W) => show FlPost w FS tick ⟨mk, ms, md, mq, mc, ml⟩ A n c (.returned v) W from ⟨v, rfl, by rw [hk, HD.out.2]; exact ho, hb⟩)
      cases lo
      · cases tw
        · have HX := Lib.hid (HEND.out 1 _ _ HD.out.1 (World.ownsRow_lit (e := 86) (size := 7) (base := w.heap.size) w5 #[.int .i64 due, .int .i64 mk, .int .i64 ms, .int .i64 md, .int .i64 mq, .int .u32 mc, .slice A n c] 1 hz5 (by decide) rfl) (HB5.out.trans ((Below.refl _ _).alloc hz5 (.cells #[.int .i64 due, .int .i64 mk, .int .i64 ms, .int .i64 md, .int .i64 mq, .int .u32 mc, .slice A n c] 86))))
          clear HEND HD HB5
          go_wp2
          go_ret
          exact HX.out
        · have HX := Lib.hid (HEND.out 2 _ _ HD.out.1 (World.ownsRow_lit (e := 86) (size := 7) (base := w.heap.size) w5 #[.int .i64 due, .int .i64 mk, .int .i64 ms, .int .i64 md, .int .i64 mq, .int .u32 mc, .slice A n c, .int .i64 due, .int .i64 mk, .int .i64 ms, .int .i64 md, .int .i64 mq, .int .u32 mc, .slice A n c] 2 hz5 (by decide) rfl) (HB5.out.trans ((Below.refl _ _).alloc hz5 (.cells #[.int .i64 due, .int .i64 mk, .int .i64 ms, .int .i64 md, .int .i64 mq, .int .u32 mc, .slice A n c, .int .i64 due, .int .i64 mk, .int .i64 ms, .int .i64 md, .int .i64 mq, .int .u32 mc, .slice A n c] 86))))
          clear HEND HD HB5
          go_wp2
          go_ret
          exact HX.out
      · have HX := Lib.hid (HEND.out 0 _ w5 HD.out.1 (World.ownsRow_nil _ _ _ _) HB5.out)
        clear HEND HD HB5
        go_wp2
        go_ret
        exact HX.out
end Go.Proofs.Ytpnefacignalpaa
