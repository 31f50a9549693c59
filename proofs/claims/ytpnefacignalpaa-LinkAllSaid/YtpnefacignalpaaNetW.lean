/- net.Send: its contract. Conditions: those typed. -/
import Derived.Test.YtpnefacignalpaaNetS
namespace Go.Proofs.Ytpnefacignalpaa
open Go.RowKit Go.Gy
set_option linter.unusedVariables false
set_option linter.unusedSimpArgs false
def SendPost (w : World) (base B : Nat) (FS : List GF) (T : Int) (v : Value) (K : List AK) (tick : Int) (m : GMsg) (e : Ending) (w' : World) : Prop :=
  ∃ v', e = .returned (.int .i64 ((sendC FS T K tick m : Nat) : Int)) ∧ NetAt w' base B FS (sendT FS T K tick m) v' (sendK FS T K tick m) ∧ Mod (NetF B v) w w' ∧ NearV w v v'
theorem SendPost.bad {w w' : World} {base B : Nat} {FS : List GF} {T : Int} {v : Value} {K : List AK} {tick : Int} {m : GMsg} {k : Nat} (hk : sendC FS T K tick m = k) (h0 : k ≠ 0) (hN : NetAt w base B FS T v K) (hb : Below w.heap.size w w') : SendPost w base B FS T v K tick m (.returned (.int .i64 (k : Int))) w' := by
  refine ⟨v, by rw [hk], ?_, Mod.of_below hb, fun g hg => .inl hg⟩
  unfold sendT sendK
  rw [hk, if_neg h0, if_neg h0]
  exact hN.below hb
theorem NetAt.tick {w : World} {base B : Nat} {FS : List GF} {T : Int} {v : Value} {K : List AK} (h : NetAt w base B FS T v K) (T' : Int) : NetAt (w.setCell ⟨B, 1, none⟩ (.int .i64 T')) base B FS T' v K := by
  obtain ⟨h1, h2, Af, nf, cf, ks, h3, h4, h5, h6, h7, h8⟩ := h
  have k5 := h4.set 1 (.int .i64 T')
  have hS := Mod.of_grow (GroW.set w B 1 (.int .i64 T'))
  have hne : ∀ {t : TypeId} {g : Nat} {cs : Array Value}, Blk w g t cs → t ≠ 79 → ¬ (g = B) := fun hk ht e => by
    subst e
    exact ht (blk_type hk h4)
  exact ⟨h1, h2, Af, nf, cf, ks, h3, k5, hS.own h5 (fun g cs _ hk => hne hk (by decide)), h6, hS.own h7 (fun g cs _ hk => hne hk (by decide)), fun k hk => ⟨hS.own (h8 k hk).1 (fun g cs _ hk => hne hk (by decide)), (h8 k hk).2⟩⟩
theorem SdJ.mod {wq : World} {base : Nat} {v : Value} {n : Nat} {xs : List Value} {m : GMsg} {nn : Nat} {due : Int} {det : Nat → Option Value} {s : Nat → Bool} {vs : Nat → Value} {W : World} (h : SdJ wq base v n xs m nn due det s vs W) : Mod (fun k => v.ownBlock = some k) wq W := by
  cases h1 : s 13 with
  | false => exact Mod.of_below (h.b0 h1)
  | true =>
    obtain ⟨_, _, _, _, _, _, h5⟩ := h.ap h1
    exact h5
theorem SdJ.n13 {wq : World} {base : Nat} {v : Value} {n : Nat} {xs : List Value} {m : GMsg} {nn : Nat} {due : Int} {det : Nat → Option Value} {s : Nat → Bool} {vs : Nat → Value} {W : World} (h : SdJ wq base v n xs m nn due det s vs W) (h0 : s 11 = false ∨ s 12 = false) : s 13 = false := by
  cases h1 : s 13 with
  | false => rfl
  | true =>
    have h2 := (h.ap h1).1
    have h3 := (h.ls h2).1
    rcases h0 with h0 | h0
    · rw [h3] at h0; cases h0
    · rw [h2] at h0; cases h0
theorem StepJ.app {P : Program} {ops : Array Oper} {a : Act} {o : Oper} {W : World} {K R : Value → World → Prop} (hw : Region.wanted o (yielded ops a.tmps) = true) (h : ∃ v' W', (execOp a.eval o).run P W = .ok (.value v') W' ∧ R v' W') (hK : ∀ v' W', R v' W' → K v' W') : StepJ P ops a o W K := by
  obtain ⟨v', W', h1, h2⟩ := h
  exact StepJ.val hw h1 (hK v' W' h2)
def F1Rel (w1 : World) (FS : List GF) (tick src : Int) (nf : Nat) (many late idx : Value) (wr : World) : Prop := ∃ j : Nat, j ≤ nf ∧ idx = .int .i64 j ∧ many = .int .i64 ((planF tick src (FS.take j)).1 : Int) ∧ late = .int .i64 (planF tick src (FS.take j)).2 ∧ Below w1.heap.size w1 wr
def F2Rel (w : World) (base B bm : Nat) (FS : List GF) (tick due : Int) (v : Value) (K : List AK) (m : GMsg) (A : Option Addr) (n c many : Nat) (idx : Value) (wr : World) : Prop := ∃ (t : Nat) (v' : Value), t ≤ many ∧ idx = .int .i64 t ∧ NetAt wr base B FS tick v' (K ++ List.replicate t (due, m)) ∧ Mod (NetF B v) w wr ∧ NearV w v v' ∧
  Blk wr bm 43 #[.int .i64 m.kind, .int .i64 m.src, .int .i64 m.dst, .int .i64 m.seq, .int .u32 m.clock, .slice A n c] ∧ MsgAt wr wr.heap.size m A n c ∧ (0 < n → ∀ p, A = some p → ¬ NetF B v' p.block)
theorem step_next {FS : List GF} {tick src : Int} {j nf : Nat} {a b c : Int} {w1 wr : World} {s : Nat × Int} (hf : FS[j]? = some (a, b, c)) (hj : j < nf) (hs : stepF tick src (planF tick src (FS.take j)) (a, b, c) = s) (hb : Below w1.heap.size w1 wr) :
    F1Rel w1 FS tick src nf (.int .i64 (s.1 : Int)) (.int .i64 s.2) (.int .i64 ((j : Int) + 1)) wr :=
  ⟨j + 1, hj, by simp, by rw [planF_take hf, hs], by rw [planF_take hf, hs], hb⟩
set_option maxRecDepth 100000 in
set_option maxHeartbeats 8000000 in
theorem send_any (w : World) (base B : Nat) (FS : List GF) (T : Int) (v : Value) (K : List AK) (h : NetAt w base B FS T v K) (hbase : base ≤ w.heap.size) (tick : Int) (m : GMsg) (A : Option Addr) (n c : Nat) (hm : MsgAt w w.heap.size m A n c) (hA : 0 < n → ∀ p, A = some p → ¬ NetF B v p.block) :
    Calls Try.prog 13 #[.pointer (some ⟨B, 0, none⟩), .int .i64 tick, msgV m A n c] w (SendPost w base B FS T v K tick m) := by
  have HN := Lib.hid h
  have HM := Lib.hid hm
  have HA := Lib.hid hA
  obtain ⟨_, hok, Af, nf, cf, ks, hks, hkb, hkf, hfl, hkv, _⟩ := h
  obtain ⟨Av, cv, rfl, _, _, _⟩ := own_rd hkv
  obtain ⟨mk, ms, md, mq, mc, ml⟩ := m
  have hb1 : Below w.heap.size w (w.alloc (.cells #[.int .i64 mk, .int .i64 ms, .int .i64 md, .int .i64 mq, .int .u32 mc, .slice A n c] 43)) := (Below.refl _ _).alloc (Nat.le_refl _) _
  have HBL := Lib.hid hkb.lt
  have c0 := (hkb.alloc (.cells #[.int .i64 mk, .int .i64 ms, .int .i64 md, .int .i64 mq, .int .u32 mc, .slice A n c] 43)).cell 0 _ rfl
  have c1 := (hkb.alloc (.cells #[.int .i64 mk, .int .i64 ms, .int .i64 md, .int .i64 mq, .int .u32 mc, .slice A n c] 43)).cell 1 _ rfl
  have c2 := (hkb.alloc (.cells #[.int .i64 mk, .int .i64 ms, .int .i64 md, .int .i64 mq, .int .u32 mc, .slice A n c] 43)).cell 2 _ rfl
  have hm1 := Blk.new w 43 #[.int .i64 mk, .int .i64 ms, .int .i64 md, .int .i64 mq, .int .u32 mc, .slice A n c]
  have HCK := Lib.hid (check_any (w.alloc (.cells #[.int .i64 mk, .int .i64 ms, .int .i64 md, .int .i64 mq, .int .u32 mc, .slice A n c] 43)) ⟨mk, ms, md, mq, mc, ml⟩ A n c ((hm.below hb1).more hb1.size))
  have HKS := Lib.hid (show ks.length = K.length by rw [← hks, List.length_map])
  have HB1 := Lib.hid hb1
  have HM1 := Lib.hid hm1
  have HKB := Lib.hid hkb
  have HKV := Lib.hid hkv
  have HKF := Lib.hid hkf
  have HFL := Lib.hid hfl
  have HOK := Lib.hid hok
  clear hm hA hb1 hm1 hks hkb hkv hkf hfl hok
  go_enter Try.func13, Try.ntmps13
  by_cases ht0 : tick < 0
  · have HX := Lib.hid (fun (W : World) (hW : Below w.heap.size w W) => SendPost.bad (tick := tick) (m := ⟨mk, ms, md, mq, mc, ml⟩) (k := 1) (by unfold sendC; rw [if_pos (.inl ht0)]) (by omega) HN.out hW)
    go_wp2
    go_ret
    exact HX.out _ HB1.out
  · by_cases ht1 : 2000 < tick
    · have HX := Lib.hid (fun (W : World) (hW : Below w.heap.size w W) => SendPost.bad (tick := tick) (m := ⟨mk, ms, md, mq, mc, ml⟩) (k := 1) (by unfold sendC; rw [if_pos (.inr ht1)]) (by omega) HN.out hW)
      go_wp2
      go_ret
      exact HX.out _ HB1.out
    · have HT := Lib.hid (show ¬ (tick < 0 ∨ 2000 < tick) by omega)
      by_cases ht2 : tick < T
      · have HX := Lib.hid (fun (W : World) (hW : Below w.heap.size w W) => SendPost.bad (tick := tick) (m := ⟨mk, ms, md, mq, mc, ml⟩) (k := 9) (by unfold sendC; rw [if_neg HT.out, if_pos ht2]) (by omega) HN.out hW)
        go_wp2
        go_ret
        exact HX.out _ HB1.out
      · have HT2 := Lib.hid ht2
        have m0 := HM1.out.cell 0 _ rfl
        have m1 := HM1.out.cell 1 _ rfl
        have m2 := HM1.out.cell 2 _ rfl
        have m3 := HM1.out.cell 3 _ rfl
        have m4 := HM1.out.cell 4 _ rfl
        have m5 := HM1.out.cell 5 _ rfl
        obtain ⟨E, hE⟩ : ∃ E, E = msgF ⟨mk, ms, md, mq, mc, ml⟩ := ⟨_, rfl⟩
        rw [← hE] at HCK
        have HE := Lib.hid hE
        clear hE
        go_wp2_with fail
        refine HCK.out.mono ?_
        rintro e w2 ⟨rfl, hb2⟩
        have hb12 := HB1.out.trans (hb2.mono HB1.out.size)
        have HB2 := Lib.hid hb12
        have hmb2 := HM1.out.below hb2 HM1.out.lt
        have HM2 := Lib.hid hmb2
        have hz2 := hb12.size
        have hbl2 := hmb2.lt
        clear hb2 HCK HM1 c0 c1 c2 m0 m1 m2 m3 m4 m5 hb12
        by_cases hE0 : E = 0
        · have hkb2 := HKB.out.below HB2.out HKB.out.lt
          have c0 := hkb2.cell 0 _ rfl
          have c2 := hkb2.cell 2 _ rfl
          have hst := Lib.hid (show F1Rel w2 FS tick ms nf (.int .i64 1) (.int .i64 0) (.int .i64 0) w2 from ⟨0, Nat.zero_le _, rfl, rfl, rfl, Below.refl _ _⟩)
          have HM0 := Lib.hid (show msgF ⟨mk, ms, md, mq, mc, ml⟩ = 0 by rw [← HE.out]; exact hE0)
          have hff := own_below HKF.out HB2.out (Nat.le_refl _)
          obtain ⟨_, _, hfe, hnc5, hcm5, hrf⟩ := own_rd hff
          have hnf5 : nf ≤ 9223372036854775807 := by unfold maxLen at hcm5; omega
          injection hfe with e1 e2 e3
          subst e1 e3
          have HRF := Lib.hid hrf
          clear hff hrf e2 hkb2 hmb2 hnc5 hcm5
          subst hE0
          go_wp2_with fail
          go_loopw [8, 9, 34] (fun many late idx wr => F1Rel w2 FS tick ms nf many late idx wr) (fun _ _ idx _ => nf - (intOf idx).toNat)
          case atStart => exact hst.out
          case round =>
            clear hst c0 c2
            obtain ⟨j, hj, rfl, rfl, rfl, hbr⟩ := hrel
            have hpl := planF_le tick ms (FS.take j)
            obtain ⟨⟨many, late⟩, hP⟩ : ∃ P, P = planF tick ms (FS.take j) := ⟨_, rfl⟩
            rw [← hP] at hpl ⊢
            have HP := Lib.hid hP
            simp only at hpl ⊢
            clear hP
            by_cases hlt : j < nf
            · have hji : (j : Int) < (nf : Int) := by omega
              obtain ⟨bf, of, ⟨fa, fb, fc⟩, rfl, hbB, hg, hcc⟩ := (HRF.out.below hbr).elem encF_len HFL.out hlt
              have x0 : wr.cell? ⟨bf, of + j * 3, none⟩ = some (.int .i64 fa) := hcc 0 _ rfl
              have x1 : wr.cell? ⟨bf, of + j * 3 + 1, none⟩ = some (.int .i64 fb) := hcc 1 _ rfl
              have x2 : wr.cell? ⟨bf, of + j * 3 + 2, none⟩ = some (.int .i64 fc) := hcc 2 _ rfl
              have HG := Lib.hid hg
              have HBR := Lib.hid hbr
              have HMR := Lib.hid (HM2.out.below hbr HM2.out.lt)
              have HSTEP := Lib.hid (fun (W : World) (s : Nat × Int) (hs : stepF tick ms (many, late) (fa, fb, fc) = s) (hW : Below w2.heap.size w2 W) => step_next (s := s) HG.out hlt (by rw [← HP.out]; exact hs) hW)
              have hjj : IntKind.i64.wrap ((j : Int) + 1) = (j : Int) + 1 := by rw [IntKind.wrap_i64]; omega
              clear hcc hg hbr
              go_upto_region 12 with (fail)
              have hk3 := Blk.new wr 66 #[.int .i64 fa, .int .i64 fb, .int .i64 fc]
              have hb3 : Below wr.heap.size wr (wr.alloc (.cells #[.int .i64 fa, .int .i64 fb, .int .i64 fc] 66)) := (Below.refl _ _).alloc (Nat.le_refl _) _
              generalize wr.alloc (.cells #[.int .i64 fa, .int .i64 fb, .int .i64 fc] 66) = w3 at hk3 hb3 ⊢
              have y0 := hk3.cell 0 _ rfl
              have y1 := hk3.cell 1 _ rfl
              have y2 := hk3.cell 2 _ rfl
              have z1 := (HMR.out.below hb3 HMR.out.lt).cell 1 _ rfl
              have HW3 := Lib.hid (HBR.out.trans (hb3.mono HBR.out.size))
              clear hk3 hb3 x0 x1 x2
              by_cases hat : fa = tick
              · subst hat
                by_cases hb0 : fb = 0
                · subst hb0
                  by_cases hc0 : fc = ms
                  · subst hc0
                    have HX := Lib.hid (HSTEP.out w3 (0, late) (by unfold stepF; simp) HW3.out)
                    go_wp2
                    go_roundw
                    case rel => exact HX.out
                    case measure => simp [intOf]; omega
                  · have hq : (fc == ms) = false := by simpa using hc0
                    have hm2 : ¬ (2 : Int) < (many : Int) := by omega
                    have HX := Lib.hid (HSTEP.out w3 (many, late) (by unfold stepF; simp [hc0]) HW3.out)
                    go_wp2
                    go_roundw
                    case rel => exact HX.out
                    case measure => simp [intOf]; omega
                · have hq0 : (fb == 0) = false := by simpa using hb0
                  by_cases hb1 : fb = 1
                  · subst hb1
                    by_cases hc0 : fc = ms
                    · subst hc0
                      have HX := Lib.hid (HSTEP.out w3 (min (many * 2) 2, late) (by unfold stepF; simp) HW3.out)
                      have hmm : many = 0 ∨ many = 1 ∨ many = 2 := by omega
                      clear hpl HP HSTEP
                      rcases hmm with rfl | rfl | rfl
                      · go_wp2
                        go_roundw
                        case rel => exact HX.out
                        case measure => simp [intOf]; omega
                      · go_wp2
                        go_roundw
                        case rel => exact HX.out
                        case measure => simp [intOf]; omega
                      · go_wp2
                        go_roundw
                        case rel => exact HX.out
                        case measure => simp [intOf]; omega
                    · have hq : (fc == ms) = false := by simpa using hc0
                      have hm2 : ¬ (2 : Int) < (many : Int) := by omega
                      have HX := Lib.hid (HSTEP.out w3 (many, late) (by unfold stepF; simp [hc0]) HW3.out)
                      go_wp2
                      go_roundw
                      case rel => exact HX.out
                      case measure => simp [intOf]; omega
                  · have hq1 : (fb == 1) = false := by simpa using hb1
                    have hm2 : ¬ (2 : Int) < (many : Int) := by omega
                    by_cases hb2 : fb = 2
                    · subst hb2
                      by_cases hc0 : 0 < fc
                      · by_cases hc1 : fc ≤ 2000
                        · by_cases hc2 : late < fc
                          · have HX := Lib.hid (HSTEP.out w3 (many, fc) (by unfold stepF; simp [hc0, hc1]; omega) HW3.out)
                            go_wp2
                            go_roundw
                            case rel => exact HX.out
                            case measure => simp [intOf]; omega
                          · have HX := Lib.hid (HSTEP.out w3 (many, late) (by unfold stepF; simp [hc0, hc1]; omega) HW3.out)
                            go_wp2
                            go_roundw
                            case rel => exact HX.out
                            case measure => simp [intOf]; omega
                        · have HX := Lib.hid (HSTEP.out w3 (many, late) (by unfold stepF; simp [hc0, hc1]) HW3.out)
                          go_wp2
                          go_roundw
                          case rel => exact HX.out
                          case measure => simp [intOf]; omega
                      · have HX := Lib.hid (HSTEP.out w3 (many, late) (by unfold stepF; simp [hc0]) HW3.out)
                        go_wp2
                        go_roundw
                        case rel => exact HX.out
                        case measure => simp [intOf]; omega
                    · have hq2 : (fb == 2) = false := by simpa using hb2
                      have HX := Lib.hid (HSTEP.out w3 (many, late) (by unfold stepF; simp [hb0, hb1, hb2]) HW3.out)
                      go_wp2
                      go_roundw
                      case rel => exact HX.out
                      case measure => simp [intOf]; omega
              · have hq : (fa == tick) = false := by simpa using hat
                have hq' : (fa != tick) = true := by simpa using hat
                have HX := Lib.hid (HSTEP.out w3 (many, late) (by unfold stepF; simp [hat]) HW3.out)
                go_wp2
                go_roundw
                case rel => exact HX.out
                case measure => simp [intOf]; omega
            · obtain rfl : j = nf := by omega
              have hPP : planF tick ms FS = (many, late) := by rw [HP.out, List.take_of_length_le (by rw [HFL.out]; exact Nat.le_refl _)]
              have hw0r := HB2.out.trans (hbr.mono HB2.out.size)
              have hkb3 := HKB.out.below hw0r HKB.out.lt
              have c1 := hkb3.cell 1 _ rfl
              have c2 := hkb3.cell 2 _ rfl
              have f1 := hkb3.free 1
              have hjn : ¬ (j : Int) < (j : Int) := by omega
              have hkl := HOK.out.1
              have hks5 := HKS.out
              have hwk : IntKind.i64.wrap ((ks.length : Int) + (many : Int)) = (ks.length : Int) + (many : Int) := by rw [IntKind.wrap_i64]; omega
              have HFLN := Lib.hid (show (flightsF FS tick ⟨mk, ms, md, mq, mc, ml⟩).length = many by rw [flightsF_len]; show (planF tick ms FS).1 = many; rw [hPP])
              have HPP := Lib.hid hPP
              have HW0R := Lib.hid hw0r
              have HMR := Lib.hid (HM2.out.below hbr HM2.out.lt)
              by_cases hbig : 1000 < ks.length + many
              · have hbi : (1000 : Int) < (ks.length : Int) + (many : Int) := by omega
                have HX := Lib.hid (fun (W : World) (hW : Below w.heap.size w W) => SendPost.bad (tick := tick) (m := ⟨mk, ms, md, mq, mc, ml⟩) (k := 6) (by unfold sendC; rw [if_neg HT.out, if_neg (by have := HT2.out; omega), if_neg (by rw [HM0.out]; simp), if_pos (by rw [HFLN.out]; omega)]) (by omega) HN.out hW)
                clear hbr hPP hkb3 hw0r hkl hks5
                go_wp2
                go_ret
                exact HX.out _ HW0R.out
              · have hbi : ¬ (1000 : Int) < (ks.length : Int) + (many : Int) := by omega
                have HC0 := Lib.hid (show sendC FS T K tick ⟨mk, ms, md, mq, mc, ml⟩ = 0 by unfold sendC; rw [if_neg HT.out, if_neg (by have := HT2.out; omega), if_neg (by rw [HM0.out]; simp), if_neg (by rw [HFLN.out]; omega)])
                have HLEN := Lib.hid (show K.length + many ≤ 1000 by omega)
                have HPL := Lib.hid hpl
                clear hkl hks5 hbr hPP hkb3 hw0r hbig hpl
                go_upto_region 24 with (fail)
                obtain ⟨due, hdue⟩ : ∃ due : Int, due = tick + 1 + late := ⟨_, rfl⟩
                have hS := Mod.of_grow (GroW.set wr B 1 (.int .i64 tick))
                have hN4 := (HN.out.below HW0R.out).tick tick
                have hmne : ¬ (w.heap.size = B) := fun e => by have := HBL.out; omega
                have hM4 : Mod (NetF B (.slice Av ks.length cv)) w (wr.setCell ⟨B, 1, none⟩ (.int .i64 tick)) := (Mod.of_below HW0R.out).set (fun _ => .inl rfl) 1 _
                have hst2 := Lib.hid (show F2Rel w base B w.heap.size FS tick due (.slice Av ks.length cv) K ⟨mk, ms, md, mq, mc, ml⟩ A n c many (.int .i64 0) (wr.setCell ⟨B, 1, none⟩ (.int .i64 tick)) from ⟨0, _, Nat.zero_le _, rfl, by rw [List.replicate_zero, List.append_nil]; exact hN4, hM4, fun g hg => .inl hg, hS.blk HMR.out hmne, HM.out.mod hM4 HA.out, HA.out⟩)
                generalize wr.setCell ⟨B, 1, none⟩ (.int .i64 tick) = w4 at hst2 ⊢
                clear hS hN4 hM4 c1 c2 f1
                have hwt1 : IntKind.i64.wrap (tick + 1) = tick + 1 := by rw [IntKind.wrap_i64]; omega
                have hwt2 : IntKind.i64.wrap (tick + 1 + late) = due := by have := HPL.out; rw [IntKind.wrap_i64]; omega
                have HDUE := Lib.hid hdue
                have HTB := Lib.hid (show 0 ≤ tick ∧ tick ≤ 2000 by omega)
                clear hdue
                go_wp2_with fail
                go_loopw [100] (fun idx wr => F2Rel w base B w.heap.size FS tick due (.slice Av ks.length cv) K ⟨mk, ms, md, mq, mc, ml⟩ A n c many idx wr) (fun idx _ => many - (intOf idx).toNat)
                case atStart => exact hst2.out
                case round =>
                  clear hst2
                  obtain ⟨t, v', htm, rfl, hN, hM, hNv, hbm, hma, hA'⟩ := hrel
                  by_cases hlt : t < many
                  · have hti : (t : Int) < (many : Int) := by omega
                    have hwt3 : IntKind.i64.wrap ((t : Int) + 1) = (t : Int) + 1 := by have := HPL.out; rw [IntKind.wrap_i64]; omega
                    obtain ⟨_, _, Ag, ng, cg, ls, hls, hlb, _, _, hlv, _⟩ := id hN
                    obtain ⟨Aw, cw, rfl, _, _, _⟩ := own_rd hlv
                    have hdr : Below wr.heap.size wr wr.drew := (Below.refl _ _).drew
                    obtain ⟨wq, hwq⟩ : ∃ wq, wr.drew = wq := ⟨_, rfl⟩
                    rw [hwq] at hdr
                    have HNQ := Lib.hid (hN.below hdr)
                    have HLB := Lib.hid (hlb.below hdr hlb.lt)
                    have HLV := Lib.hid (own_below hlv hdr (Nat.le_refl _))
                    have HBM := Lib.hid (hbm.below hdr hbm.lt)
                    have HMA := Lib.hid ((hma.below hdr).more hdr.size)
                    have HAQ := Lib.hid hA'
                    have HMQ := Lib.hid (hM.call hdr)
                    have HNV := Lib.hid hNv
                    have HLL := Lib.hid (show ls.length = K.length + t by rw [← List.length_map (f := absK), hls]; simp)
                    have hll : ls.length ≤ 1000 := by have := HLL.out; have := HLEN.out; omega
                    obtain ⟨i0, hi0, hz0, hz1, hz2⟩ := info_parts info_sentI
                    clear hN hM hNv hbm hma hA' hls hlb hlv hdr
                    have HBV := Lib.hid (show ¬ (Value.slice Aw ls.length cw).ownBlock = some B from fun e => by
                      obtain ⟨cs, hk⟩ := own_blk HLV.out e
                      exact absurd (blk_type HLB.out hk) (by decide))
                    have HMV := Lib.hid (show ¬ (Value.slice Aw ls.length cw).ownBlock = some w.heap.size from fun e => by
                      obtain ⟨cs, hk⟩ := own_blk HLV.out e
                      exact absurd (blk_type HBM.out hk) (by decide))
                    go_upto_region 26 with (fail)
                    refine wp_region_invJ 14 (SdJ wq base (.slice Aw ls.length cw) ls.length (ls.flatMap encS) ⟨mk, ms, md, mq, mc, ml⟩ n due (fun i => ([.pointer (some ⟨B, 0, none⟩), .pointer (some ⟨B, 0, none⟩), .pointer (some ⟨B, 0, none⟩), .pointer (some ⟨B, 2, none⟩), .slice Aw ls.length cw, .int .i64 tick, .int .i64 (tick + 1), .int .i64 late, .int .i64 due, msgV ⟨mk, ms, md, mq, mc, ml⟩ A n c] : List Value)[i]?)) (by kernel_rfl) (by kernel_rfl) (by rw [hwq]; exact SdJ.start (Below.refl _ _)) ?_ ?_
                    · intro i o hi ho s vs W hJ hs hdep
                      rcases i with _ | _ | _ | _ | _ | _ | _ | _ | _ | _ | _ | _ | _ | _ | i
                      all_goals first | omega | skip
                      all_goals (simp only [List.getElem?_cons_succ, List.getElem?_cons_zero, Option.some.injEq] at ho; subst ho)
                      · refine StepJ.val (v := .pointer (some ⟨B, 0, none⟩)) rfl ?_ (hJ.det_step (by omega) rfl)
                        unfold lexA
                        simp only [putAll, preI, Nat.reduceLT, Nat.reduceAdd, decide_false, Bool.false_eq_true, if_false]
                        go_simp
                      · refine StepJ.val (v := .pointer (some ⟨B, 0, none⟩)) rfl ?_ (hJ.det_step (by omega) rfl)
                        unfold lexA
                        simp only [putAll, preI, Nat.reduceLT, Nat.reduceAdd, decide_true, decide_false, Bool.false_eq_true, if_true, if_false, Act.put, List.setIfInBounds_toArray, List.set_cons_zero, List.set_cons_succ]
                        go_simp
                      · have d1 : vs 1 = .pointer (some ⟨B, 0, none⟩) := hJ.dt 1 _ (hdep ⟨1, .data⟩ (by simp) rfl) rfl
                        refine StepJ.val (v := .pointer (some ⟨B, 0, none⟩)) rfl ?_ (hJ.det_step (by omega) rfl)
                        unfold lexA
                        simp only [putAll, preI, Nat.reduceLT, Nat.reduceAdd, decide_true, decide_false, Bool.false_eq_true, if_true, if_false, Act.put, List.setIfInBounds_toArray, List.set_cons_zero, List.set_cons_succ]
                        go_simp
                      · have d2 : vs 2 = .pointer (some ⟨B, 0, none⟩) := hJ.dt 2 _ (hdep ⟨2, .data⟩ (by simp) rfl) rfl
                        refine StepJ.val (v := .pointer (some ⟨B, 2, none⟩)) rfl ?_ (hJ.det_step (by omega) rfl)
                        unfold lexA
                        simp only [putAll, preI, Nat.reduceLT, Nat.reduceAdd, decide_true, decide_false, Bool.false_eq_true, if_true, if_false, Act.put, List.setIfInBounds_toArray, List.set_cons_zero, List.set_cons_succ]
                        go_simp
                      · have d3 : vs 3 = .pointer (some ⟨B, 2, none⟩) := hJ.dt 3 _ (hdep ⟨3, .data⟩ (by simp) rfl) rfl
                        have x2 := (hJ.mod.blk HLB.out HBV.out).cell 2 _ rfl
                        refine StepJ.val (v := .slice Aw ls.length cw) rfl ?_ (hJ.det_step (by omega) rfl)
                        unfold lexA
                        simp only [putAll, preI, Nat.reduceLT, Nat.reduceAdd, decide_true, decide_false, Bool.false_eq_true, if_true, if_false, Act.put, List.setIfInBounds_toArray, List.set_cons_zero, List.set_cons_succ]
                        go_simp
                      · refine StepJ.val (v := .int .i64 tick) rfl ?_ (hJ.det_step (by omega) rfl)
                        unfold lexA
                        simp only [putAll, preI, Nat.reduceLT, Nat.reduceAdd, decide_true, decide_false, Bool.false_eq_true, if_true, if_false, Act.put, List.setIfInBounds_toArray, List.set_cons_zero, List.set_cons_succ]
                        go_simp
                      · have d5 : vs 5 = .int .i64 tick := hJ.dt 5 _ (hdep ⟨5, .data⟩ (by simp) rfl) rfl
                        refine StepJ.val (v := .int .i64 (tick + 1)) rfl ?_ (hJ.det_step (by omega) rfl)
                        unfold lexA
                        simp only [putAll, preI, Nat.reduceLT, Nat.reduceAdd, decide_true, decide_false, Bool.false_eq_true, if_true, if_false, Act.put, List.setIfInBounds_toArray, List.set_cons_zero, List.set_cons_succ]
                        go_simp
                      · refine StepJ.val (v := .int .i64 late) rfl ?_ (hJ.det_step (by omega) rfl)
                        unfold lexA
                        simp only [putAll, preI, Nat.reduceLT, Nat.reduceAdd, decide_true, decide_false, Bool.false_eq_true, if_true, if_false, Act.put, List.setIfInBounds_toArray, List.set_cons_zero, List.set_cons_succ]
                        go_simp
                      · have d6 : vs 6 = .int .i64 (tick + 1) := hJ.dt 6 _ (hdep ⟨6, .data⟩ (by simp) rfl) rfl
                        have d7 : vs 7 = .int .i64 late := hJ.dt 7 _ (hdep ⟨7, .data⟩ (by simp) rfl) rfl
                        refine StepJ.val (v := .int .i64 due) rfl ?_ (hJ.det_step (by omega) rfl)
                        unfold lexA
                        simp only [putAll, preI, Nat.reduceLT, Nat.reduceAdd, decide_true, decide_false, Bool.false_eq_true, if_true, if_false, Act.put, List.setIfInBounds_toArray, List.set_cons_zero, List.set_cons_succ]
                        go_simp
                      · have hbx := hJ.mod.blk HBM.out HMV.out
                        have x0 := hbx.cell 0 _ rfl
                        have x1 := hbx.cell 1 _ rfl
                        have x2 := hbx.cell 2 _ rfl
                        have x3 := hbx.cell 3 _ rfl
                        have x4 := hbx.cell 4 _ rfl
                        have x5 := hbx.cell 5 _ rfl
                        refine StepJ.val (v := msgV ⟨mk, ms, md, mq, mc, ml⟩ A n c) rfl ?_ (hJ.det_step (by omega) rfl)
                        clear hbx
                        unfold lexA
                        simp only [putAll, preI, Nat.reduceLT, Nat.reduceAdd, decide_true, decide_false, Bool.false_eq_true, if_true, if_false, Act.put, List.setIfInBounds_toArray, List.set_cons_zero, List.set_cons_succ]
                        go_simp
                      · have d9 : vs 9 = msgV ⟨mk, ms, md, mq, mc, ml⟩ A n c := hJ.dt 9 _ (hdep ⟨9, .data⟩ (by simp) rfl) rfl
                        have hmW := HMA.out.mod hJ.mod (fun h0 p hp hf => HAQ.out h0 p hp (.inr hf))
                        refine StepJ.call rfl ?_ ((copy_own W ⟨mk, ms, md, mq, mc, ml⟩ A n c hmW).mono fun e W' ⟨A2, c2, he, ho, hb⟩ => ⟨_, he, hJ.step10 hs rfl hb ho⟩)
                        clear hmW
                        unfold lexA
                        simp only [putAll, preI, Nat.reduceLT, Nat.reduceAdd, decide_true, decide_false, Bool.false_eq_true, if_true, if_false, Act.put, List.setIfInBounds_toArray, List.set_cons_zero, List.set_cons_succ]
                        go_simp
                      · have d8 : vs 8 = .int .i64 due := hJ.dt 8 _ (hdep ⟨8, .data⟩ (by simp) rfl) rfl
                        have h10 : s 10 = true := hdep ⟨10, .data⟩ (by simp) rfl
                        obtain ⟨A2, c2, d10, _⟩ := hJ.cp h10 (hJ.n13 (.inl hs))
                        refine StepJ.val (v := .agg (encS (due, ⟨⟨mk, ms, md, mq, mc, ml⟩, A2, n, c2⟩)).toArray) rfl ?_ (hJ.step11 hs h10 rfl d10)
                        clear hJ hdep
                        unfold lexA
                        simp only [putAll, preI, Nat.reduceLT, Nat.reduceAdd, decide_true, decide_false, Bool.false_eq_true, if_true, if_false, Act.put, List.setIfInBounds_toArray, List.set_cons_zero, List.set_cons_succ]
                        go_simp
                        rfl
                      · have h11 : s 11 = true := hdep ⟨11, .data⟩ (by simp) rfl
                        have h13 := hJ.n13 (.inr hs)
                        obtain ⟨A2, c2, d10, d11⟩ := (hJ.bd h11).2 h13
                        refine StepJ.val (v := .slice (some ⟨W.heap.size, 0, none⟩) 1 1) (W' := W.alloc (.cells (encS (due, ⟨⟨mk, ms, md, mq, mc, ml⟩, A2, n, c2⟩)).toArray 82)) rfl ?_ (hJ.step12 hs h11 rfl d10 ((Below.refl _ _).alloc (Nat.le_refl _) _) (Blk.new _ _ _))
                        clear hJ hdep
                        unfold lexA
                        simp only [putAll, preI, Nat.reduceLT, Nat.reduceAdd, decide_true, decide_false, Bool.false_eq_true, if_true, if_false, Act.put, List.setIfInBounds_toArray, List.set_cons_zero, List.set_cons_succ]
                        go_simp
                        rfl
                      · have d4 : vs 4 = .slice Aw ls.length cw := hJ.dt 4 _ (hdep ⟨4, .data⟩ (by simp) rfl) rfl
                        have h12 : s 12 = true := hdep ⟨12, .data⟩ (by simp) rfl
                        have h11 := (hJ.ls h12).1
                        have h10 := (hJ.bd h11).1
                        obtain ⟨A2, c2, gL, d10, d12, hbk⟩ := (hJ.ls h12).2 hs
                        obtain ⟨A3, c3, d10', hcr⟩ := hJ.cp h10 hs
                        have hb0 := hJ.b0 hs
                        have hoW := own_below HLV.out hb0 (Nat.le_refl _)
                        have heq : A3 = A2 ∧ c3 = c2 := by
                          have h9 := d10'.symm.trans d10
                          injection h9 with h9
                          injection h9 with h9
                          simp only [List.cons.injEq, Value.slice.injEq] at h9
                          exact ⟨h9.2.2.2.2.2.1.1, h9.2.2.2.2.2.1.2.2⟩
                        obtain ⟨rfl, rfl⟩ := heq
                        refine StepJ.app rfl (exec_append (.tmp 106) (.tmp 114) 77 rfl base 82 i0 _ 7 72 Try.underlying77 hi0 hz0 hz1 hz2 rfl (by omega) (.slice Aw ls.length cw) ls.length (ls.flatMap encS) ?_ hoW gL (encS (due, ⟨⟨mk, ms, md, mq, mc, ml⟩, A3, n, c3⟩)).toArray ?_ hbk rfl (by simp [encS, encM, Value.oneCell']) (by unfold maxLen; omega) (by omega) (by have := hb0.size; have := HNQ.out.lt; have := HNQ.out.lo; omega)) (fun vn Wn ⟨hon, hgn, hnn⟩ => hJ.step13 hs h12 rfl (fun g hg => (HLV.out.lt g hg).2) (fun g cs hg hk => ?_) hcr hon hgn hnn)
                        · clear hJ hdep
                          unfold lexA
                          simp only [putAll, preI, Nat.reduceLT, Nat.reduceAdd, decide_true, decide_false, Bool.false_eq_true, if_true, if_false, Act.put, List.setIfInBounds_toArray, List.set_cons_zero, List.set_cons_succ]
                          rw [d4]
                          rfl
                        · clear hJ hdep
                          unfold lexA
                          simp only [putAll, preI, Nat.reduceLT, Nat.reduceAdd, decide_true, decide_false, Bool.false_eq_true, if_true, if_false, Act.put, List.setIfInBounds_toArray, List.set_cons_zero, List.set_cons_succ]
                          rw [d12]
                          rfl
                        · obtain ⟨cs', hk'⟩ := own_blk hoW hg
                          exact absurd (blk_type hk hk') (by decide)
                    · intro s vs W hall hJ
                      have d0 : vs 0 = .pointer (some ⟨B, 0, none⟩) := hJ.dt 0 _ (hall 0 (by omega)) rfl
                      obtain ⟨_, A2, c2, hov, hcv, hnv, hmv⟩ := hJ.ap (hall 13 (by omega))
                      obtain ⟨A3, c3, d13, _, _, _⟩ := own_rd hov
                      rw [d13] at hov hnv
                      have hlb := hmv.blk HLB.out HBV.out
                      have y2 := hlb.cell 2 _ rfl
                      have yf := hlb.free 2
                      have HX := Lib.hid (show F2Rel w base B w.heap.size FS tick due (.slice Av ks.length cv) K ⟨mk, ms, md, mq, mc, ml⟩ A n c many (.int .i64 ((t : Int) + 1)) (W.setCell ⟨B, 2, none⟩ (.slice A3 (ls.length + 1) c3)) from by
                        have hbq : base ≤ wq.heap.size := by have := HNQ.out.lt; have := HNQ.out.lo; omega
                        have hNn := HNQ.out.push (m := ⟨mk, ms, md, mq, mc, ml⟩) (due := due) ⟨by
                          rw [List.length_append, List.length_append, List.length_replicate]
                          have := HLEN.out
                          simp only [List.length_singleton]
                          omega, fun k hk => by
                          rcases List.mem_append.1 hk with hk | hk
                          · exact HNQ.out.ok.2 k hk
                          · obtain rfl := List.mem_singleton.1 hk
                            have h7 := HDUE.out
                            have h8 := HPL.out
                            have h9 := HTB.out
                            exact ⟨by simp only; omega, by simp only; omega, (cellsF_zero (msgF_zero HM0.out).2).1⟩⟩ HLV.out hov (own_mono hcv hbq) HMA.out.len hmv
                        have hS := Mod.of_grow (GroW.set W B 2 (.slice A3 (ls.length + 1) c3))
                        have hMW : Mod (NetF B (.slice Aw ls.length cw)) wq (W.setCell ⟨B, 2, none⟩ (.slice A3 (ls.length + 1) c3)) := (hmv.mono (fun i _ h => .inr h)).set (fun _ => .inl rfl) 2 _
                        refine ⟨t + 1, .slice A3 (ls.length + 1) c3, hlt, by simp, ?_, HMQ.out.trans hMW (fun i hi hf => ?_), fun g hg => ?_, hS.blk (hmv.blk HBM.out HMV.out) (fun e => by have := HBL.out; omega), HMA.out.mod hMW HAQ.out, fun h0 p hp hf => ?_⟩
                        · rw [List.replicate_succ', ← List.append_assoc]
                          exact hNn
                        · rcases hf with hf | hf
                          · exact .inl hf
                          · rcases HNV.out i hf with h | h
                            · exact .inr h
                            · omega
                        · rcases hnv g hg with h | h
                          · exact HNV.out g h
                          · exact .inr (by have := HMQ.out.size; omega)
                        · rcases hf with hf | hf
                          · exact HAQ.out h0 p hp (.inl hf)
                          · rcases hnv p.block hf with h | h
                            · exact HAQ.out h0 p hp (.inr h)
                            · obtain ⟨b, o, he, hb, _⟩ := HMA.out.rd.2 (by have := HMA.out.rd.1; omega)
                              rw [hp] at he
                              injection he with he
                              subst he
                              simp only at h
                              omega)
                      clear hov hcv hnv hmv hlb hJ hall
                      unfold lexA
                      simp only [putAll, preI, Nat.reduceLT, Nat.reduceAdd, decide_true, decide_false, Bool.false_eq_true, if_true, if_false, Act.put, List.setIfInBounds_toArray, List.set_cons_zero, List.set_cons_succ, List.drop_succ_cons, List.drop_zero]
                      rw [d0, d13]
                      go_wp2_with fail
                      go_roundw
                      case rel => exact HX.out
                      case measure => simp [intOf]; omega
                  · obtain rfl : t = many := by omega
                    have hti : ¬ (t : Int) < (t : Int) := by omega
                    have HX := Lib.hid (show SendPost w base B FS T (.slice Av ks.length cv) K tick ⟨mk, ms, md, mq, mc, ml⟩ (.returned (.int .i64 ((0 : Nat) : Int))) wr from ⟨v', by rw [HC0.out], by
                      unfold sendT sendK
                      rw [HC0.out, if_pos rfl, if_pos rfl]
                      have : flightsF FS tick ⟨mk, ms, md, mq, mc, ml⟩ = List.replicate t (due, ⟨mk, ms, md, mq, mc, ml⟩) := by
                        unfold flightsF
                        show List.replicate (planF tick ms FS).1 (tick + 1 + (planF tick ms FS).2, _) = _
                        rw [HPP.out, HDUE.out]
                      rw [this]
                      exact hN, hM, hNv⟩)
                    clear hN hM hNv hbm hma hA'
                    go_wp2
                    go_ret
                    exact HX.out
        · have HX := Lib.hid (fun (W : World) (hW : Below w.heap.size w W) => SendPost.bad (tick := tick) (m := ⟨mk, ms, md, mq, mc, ml⟩) (k := E) (by unfold sendC; rw [if_neg HT.out, if_neg (by have := HT2.out; omega), ← HE.out, if_pos hE0]) hE0 HN.out hW)
          have hE1 : ((E : Int) != 0) = true := bne_iff_ne.mpr (by omega)
          go_wp2
          go_ret
          exact HX.out _ HB2.out
end Go.Proofs.Ytpnefacignalpaa
