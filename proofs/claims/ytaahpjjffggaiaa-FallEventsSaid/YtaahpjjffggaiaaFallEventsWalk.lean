/- FallEvents's walk: it returns true. Conditions: the reach. -/
import Derived.Test.YtaahpjjffggaiaaFallPlain
import Derived.Test.YtaahpjjffggaiaaMemOpen
namespace Go.Proofs.Ytaahpjjffggaiaa.fallEvents
open Go.RowKit Go.Gy
set_option linter.unusedVariables false
def EvL (w2 : World) (m : Nat) (i : Value) (wr : World) : Prop := ∃ (k : Nat), k ≤ m ∧ i = .int .i64 (k : Int) ∧ Below w2.heap.size w2 wr
theorem same_zero : sameF zeroMem zeroMem = true := by simp [sameF]
set_option maxRecDepth 100000 in
set_option maxHeartbeats 4000000 in
theorem walk (v0 v1 : Value) (w : World) {b0 b1 : Nat} (f0 : IntsArg w v0 b0) (f1 : MemArg w v1 b1) :
    Calls Try.prog 7 #[v0, v1] w fun e w' => e = .returned (.bool true) ∧ Below w.heap.size w w' := by
  obtain ⟨l, hl, _, _, hlb⟩ := f0
  have hlb' : l.length ≤ 140737488355328 := by unfold reachBytes at hlb; omega
  have HE := Lib.hid (show ∀ w', Below w.heap.size w w' → Calls Try.prog 36 #[v0] w' (EventsPost w') from fun w' hb => events_any w' v0 l ((hl.below hb).more hb.size) hlb')
  obtain ⟨A0, n0, c0, rfl, _⟩ := id hl
  obtain ⟨M, MA, Mn, Mc, HA, Hn, Hc, rfl, hs1, hs2, _⟩ := f1
  have HD := Lib.hid (show ∀ w', Below w.heap.size w w' → Calls Try.prog 22 #[memV M MA Mn Mc HA Hn Hc, .agg #[.int .i64 1, .int .i64 (-1), .slice none 0 0]] w' (DoPost (2, zeroMem) w') from fun w' hb => by
    have := do_any w' M ⟨1, -1, []⟩ MA Mn Mc HA Hn Hc none 0 0 ((hs1.below hb).more hb.size) ((hs2.below hb).more hb.size) (SlC.nil' _ _)
    rwa [show doF M ⟨1, -1, []⟩ = (2, zeroMem) by simp [doF, checkF]] at this)
  have hb0 : Below w.heap.size w (w.alloc (.cells (memRow M MA Mn Mc HA Hn Hc) 46)) := (Below.refl _ _).alloc (Nat.le_refl _) _
  have hk0 := Blk.new w 46 (memRow M MA Mn Mc HA Hn Hc)
  have HF := Lib.hid (falls_any (w.alloc (.cells (memRow M MA Mn Mc HA Hn Hc) 46)))
  have Hb0 := Lib.hid hb0
  have Hk0 := Lib.hid hk0
  clear hl hlb hlb' hs1 hs2 hb0 hk0
  go_enter Try.func7, Try.ntmps7
  go_wp2_with fail
  refine HF.out.mono ?_
  rintro e w1 ⟨rfl, hb1⟩
  have hz1 := hb1.size
  simp only [World.size_alloc] at hz1
  have Hk1 := Lib.hid (Hk0.out.below hb1 (by simp))
  have Hb1 := Lib.hid (Hb0.out.trans (hb1.mono (by simp)))
  have HE1 := Lib.hid (HE.out w1 Hb1.out)
  clear hb1 HE HF Hb0 Hk0
  go_wp2_with fail
  refine HE1.out.mono ?_
  rintro e w2 ⟨v2, vm, m, ss, rfl, hsm, hm30, hge, hown, hevs, ⟨A2, n2, c2, A3, n3, c3, rfl, ho2, ho3, h2, h3⟩, hb2⟩
  obtain ⟨A, c, rfl, hmc, _, hr⟩ := own_rd hown
  have Hsm := Lib.hid hsm
  have Hge := Lib.hid hge
  have Hevs := Lib.hid hevs
  have Hr := Lib.hid hr
  have Hk2 := Lib.hid (Hk1.out.below hb2 (by omega))
  have hz2 := hb2.size
  have Hbw2 := Lib.hid (Hb1.out.trans (hb2.mono (by omega)))
  clear hsm hge hown hevs hr hb2 HE1 ho2 ho3 Hk1 Hb1
  go_wp2_with fail
  go_loopw [26] (fun i wr => EvL w2 m i wr) (fun i _ => m - (intOf i).toNat)
  case atStart => exact ⟨0, Nat.zero_le _, rfl, (Below.refl _ _).alloc (Nat.le_refl _) _⟩
  case round =>
    obtain ⟨k, hk, rfl, hb⟩ := hrel
    have hzr := hb.size
    have Hb := Lib.hid hb
    clear hb
    by_cases hlt : k < m
    · have hlt' : (k : Int) < (m : Int) := by omega
      obtain ⟨b, o, s, rfl, hbb, hs, hc⟩ := (Hr.out.below Hb.out).elem encE_len Hsm.out hlt
      have hown := own_below (Hevs.out s (List.mem_of_getElem? hs)) Hb.out (Nat.le_refl _)
      have hes : s.e ∈ ss.map (·.e) := List.mem_map.2 ⟨s, List.mem_of_getElem? hs, rfl⟩
      have hck := Hge.out.check hes
      obtain ⟨⟨ek, en, ec⟩, A7, n7, c7⟩ := s
      have c0 : wr.cell? ⟨b, o + k * 3, none⟩ = some (.int .i64 ek) := hc 0 _ rfl
      have c1 : wr.cell? ⟨b, o + k * 3 + 1, none⟩ = some (.int .i64 en) := hc 1 _ rfl
      have c2 : wr.cell? ⟨b, o + k * 3 + 2, none⟩ = some (.slice A7 n7 c7) := hc 2 _ rfl
      have Hown := Lib.hid hown
      have Hck := Lib.hid hck
      clear hs hc hown hes hck
      go_upto_region 7 with (fail)
      have hN := Blk.new wr 48 #[.int .i64 ek, .int .i64 en, .slice A7 n7 c7]
      have hb6 : Below wr.heap.size wr (wr.alloc (.cells #[.int .i64 ek, .int .i64 en, .slice A7 n7 c7] 48)) := (Below.refl _ _).alloc (Nat.le_refl _) _
      generalize wr.alloc (.cells #[.int .i64 ek, .int .i64 en, .slice A7 n7 c7] 48) = w6 at hN hb6 ⊢
      have hz6 := hb6.size
      have hs7 := own_below Hown.out hb6 (Nat.le_refl _)
      have hW := fwrite_any w6 ⟨ek, en, ec⟩ A7 n7 c7 (SlC.own hs7)
      unfold FWPost at hW
      rw [Hck.out] at hW
      simp only [if_true] at hW
      have HW := Lib.hid hW
      have HN := Lib.hid hN
      have Hs7 := Lib.hid hs7
      have Hb6 := Lib.hid (Hb.out.trans (hb6.mono hzr))
      have e0 := hN.cell 0 _ rfl
      have e1 := hN.cell 1 _ rfl
      have e2 := hN.cell 2 _ rfl
      have hN6 := hN.lt
      clear hN hb6 hs7 hW c0 c1 c2
      go_wp2_with fail
      refine HW.out.mono ?_
      rintro e w7 ⟨v7, n7', rfl, ho7, hb7⟩
      have hz7 := hb7.size
      obtain ⟨A8, c8, rfl, _, _, _⟩ := own_rd ho7
      have hel : (evB ⟨ek, en, ec⟩).length ≤ 805 := by
        rw [evB_len]
        have := (cellsF_zero (checkF_zero Hck.out).2.2.2.2.2.2).1
        omega
      have hR := fread_any w7 (.slice A8 n7' c8) (evB ⟨ek, en, ec⟩) (SlB.own ho7) (evB_lt Hck.out) (by omega)
      unfold ReadFPost at hR
      rw [(readF_evB Hck.out).1, (readF_evB Hck.out).2] at hR
      have HR := Lib.hid hR
      have HN7 := Lib.hid (HN.out.below hb7 hN6)
      have Hs7 := Lib.hid (own_below Hs7.out hb7 (Nat.le_refl _))
      have Hb7 := Lib.hid (Hb6.out.trans (hb7.mono (by omega)))
      clear ho7 hb7 hel hR e0 e1 e2 HW HN Hb6
      go_wp2_with fail
      refine HR.out.mono ?_
      rintro e w8 ⟨A9, n9, c9, rfl, hs9, hn9, hb8⟩
      have hz8 := hb8.size
      have HN8 := Lib.hid (HN7.out.below hb8 (by omega))
      have Hs7 := Lib.hid (own_below Hs7.out hb8 (Nat.le_refl _))
      have Hs9 := Lib.hid hs9
      have Hb8 := Lib.hid (Hb7.out.trans (hb8.mono (by omega)))
      clear hs9 hb8 HR HN7 Hb7
      go_upto_region 9 with (fail)
      have hN9 := Blk.new w8 48 #[.int .i64 ek, .int .i64 en, .slice A9 n9 c9]
      have hb9 : Below w8.heap.size w8 (w8.alloc (.cells #[.int .i64 ek, .int .i64 en, .slice A9 n9 c9] 48)) := (Below.refl _ _).alloc (Nat.le_refl _) _
      generalize w8.alloc (.cells #[.int .i64 ek, .int .i64 en, .slice A9 n9 c9] 48) = w9 at hN9 hb9 ⊢
      have hE9 := HN8.out.below hb9 (by omega)
      have s7 := SlC.own (own_below Hs7.out hb9 (Nat.le_refl _))
      have s9 := (Hs9.out.below hb9).more hb9.size
      have p7 := s7.parts
      have p9 := s9.parts
      have h400 : ec.length ≤ 400 := (cellsF_zero (checkF_zero Hck.out).2.2.2.2.2.2).1
      have l9 : ec.length = n9 := p9.1
      have l7 : ec.length = n7 := p7.1
      have hQ := equal_cells w9 A9 A7 n9 n7 c9 c7 _ ec ec p9.1 p7.1 (by omega) (by omega) p9.2.2.2 p7.2.2.2
      rw [decide_eq_true (rfl : ec = ec)] at hQ
      have HQ := Lib.hid hQ
      have Hb9 := Lib.hid (Hb8.out.trans (hb9.mono (by omega)))
      have a0 := hN9.cell 0 _ rfl
      have a1 := hN9.cell 1 _ rfl
      have a2 := hN9.cell 2 _ rfl
      have e0 := hE9.cell 0 _ rfl
      have e1 := hE9.cell 1 _ rfl
      have e2 := hE9.cell 2 _ rfl
      clear hN9 hb9 hE9 s7 s9 p7 p9 h400 hQ Hb8 HN8 l9 l7
      go_wp2_with fail
      refine HQ.out.mono ?_
      rintro e w10 ⟨rfl, nq, rfl⟩
      have Hnx := Lib.hid (show EvL w2 m (.int .i64 ((k : Int) + 1)) (w9.drewN nq) from ⟨k + 1, by omega, by go_num, below_drewN Hb9.out nq⟩)
      clear a0 a1 a2 e0 e1 e2 HQ
      go_wp2_with fail
      go_roundw
      case rel => exact Hnx.out
      case measure => simp [intOf]; omega
    · obtain rfl : k = m := by omega
      have hW := fwrite_any wr ⟨9, 0, []⟩ none 0 0 (SlC.nil' _ _)
      unfold FWPost at hW
      rw [show checkF ⟨9, 0, []⟩ = 1 by simp [checkF]] at hW
      have HW := Lib.hid hW
      have Hkr := Lib.hid (Hk2.out.below Hb.out (by omega))
      clear hW
      go_wp2_with fail
      refine HW.out.mono ?_
      rintro e w7 ⟨v7, n7, rfl, ho7, hb7⟩
      have hz7 := hb7.size
      have hb27 := Hb.out.trans (hb7.mono hzr)
      have hbw7 := Hbw2.out.trans (hb27.mono (by omega))
      have hk7 := Hkr.out.below hb7 (by omega)
      have HD7 := Lib.hid (HD.out w7 hbw7)
      have Hbw7 := Lib.hid hbw7
      obtain ⟨A8, c8, rfl, _, _, _⟩ := own_rd ho7
      have m0 := hk7.cell 0 _ rfl
      have m1 := hk7.cell 1 _ rfl
      have m2 := hk7.cell 2 _ rfl
      have m3 := hk7.cell 3 _ rfl
      have m4 := hk7.cell 4 _ rfl
      clear hb27 hbw7 hk7 ho7 hb7 HW
      go_wp2_with fail
      refine HD7.out.mono ?_
      rintro e w8 ⟨v8, rfl, ⟨A5, n5, c5, A6, n6, c6, rfl, ho5, ho6, h5, h6⟩, hb8⟩
      have Hbw8 := Lib.hid (Hbw7.out.trans (hb8.mono Hbw7.out.size))
      have Ho5 := Lib.hid ho5
      have Ho6 := Lib.hid ho6
      clear ho5 ho6 hb8 HD7 m0 m1 m2 m3 m4
      go_upto_region 14 with (fail)
      have hN9 := Blk.new w8 46 (memRow zeroMem A5 n5 c5 A6 n6 c6)
      have hb9 : Below w8.heap.size w8 (w8.alloc (.cells (memRow zeroMem A5 n5 c5 A6 n6 c6) 46)) := (Below.refl _ _).alloc (Nat.le_refl _) _
      change Code.wp _ _ _ _ (w8.alloc (.cells (memRow zeroMem A5 n5 c5 A6 n6 c6) 46))
      generalize w8.alloc (.cells (memRow zeroMem A5 n5 c5 A6 n6 c6) 46) = w9 at hN9 hb9 ⊢
      have hS := fsame_any w9 zeroMem zeroMem A5 n5 c5 A6 n6 c6 none 0 0 none 0 0 (SlC.own (own_below Ho5.out hb9 (Nat.le_refl _))) (SlC.own (own_below Ho6.out hb9 (Nat.le_refl _))) (SlC.nil' _ _) (SlC.nil' _ _) (by omega) (by omega) (by omega) (by omega)
      rw [same_zero] at hS
      have HS := Lib.hid hS
      have Hbw9 := Lib.hid (Hbw8.out.trans (hb9.mono Hbw8.out.size))
      have a0 := hN9.cell 0 _ rfl
      have a1 := hN9.cell 1 _ rfl
      have a2 := hN9.cell 2 _ rfl
      have a3 := hN9.cell 3 _ rfl
      have a4 := hN9.cell 4 _ rfl
      clear hS hN9 hb9
      go_wp2_with fail
      refine HS.out.mono ?_
      rintro e w10 ⟨rfl, hb10⟩
      have HP := Lib.hid (Hbw9.out.trans (hb10.mono Hbw9.out.size))
      clear hb10 a0 a1 a2 a3 a4
      go_wp2_with fail
      go_ret
      exact ⟨rfl, HP.out⟩
end Go.Proofs.Ytaahpjjffggaiaa.fallEvents
