/- FallSame's walk: it returns true. Conditions: the reach. -/
import Derived.Test.YtaahpjjffggaiaaFallPlain
namespace Go.Proofs.Ytaahpjjffggaiaa.fallSame
open Go.RowKit Go.Gy
set_option linter.unusedVariables false
def KpRel (w3 : World) (G : Nat) (ss : List SEv) (m : Nat) (vb i : Value) (wr : World) : Prop := ∃ (k nb cb : Nat) (Ab : Option Addr), k ≤ m ∧ i = .int .i64 (k : Int) ∧ vb = .slice Ab nb cb ∧ MemBlk wr G (G + 1) (foldF ((ss.map (·.e)).take k)) ∧ wr.ownsRow (G + 1) 5 1 (.slice Ab nb cb) nb ((bookF 0 (((ss.map (·.e)).take k).map evB)).map bv) ∧ Below G w3 wr ∧ G + 1 ≤ wr.heap.size
theorem same_self (m : GMem) : sameF m m = true := by simp [sameF]
set_option maxRecDepth 100000 in
set_option maxHeartbeats 4000000 in
theorem walk (v0 : Value) (w : World) {b0 : Nat} (f0 : IntsArg w v0 b0) :
    Calls Try.prog 10 #[v0] w fun e w' => e = .returned (.bool true) ∧ Below w.heap.size w w' := by
  obtain ⟨l, hl, _, _, hlb⟩ := f0
  have hlb' : l.length ≤ 140737488355328 := by unfold reachBytes at hlb; omega
  have HE := Lib.hid (show ∀ w', Below w.heap.size w w' → Calls Try.prog 36 #[v0] w' (EventsPost w') from fun w' hb => events_any w' v0 l ((hl.below hb).more hb.size) hlb')
  obtain ⟨A0, n0, c0, rfl, _⟩ := id hl
  have HF := Lib.hid (falls_any w)
  clear hl hlb hlb'
  go_enter Try.func10, Try.ntmps10
  go_wp2_with fail
  refine HF.out.mono ?_
  rintro e w1 ⟨rfl, hb1⟩
  have HE1 := Lib.hid (HE.out w1 hb1)
  have Hb1 := Lib.hid hb1
  clear hb1 HE HF
  go_wp2_with fail
  refine HE1.out.mono ?_
  rintro e w2 ⟨v2, vm, m, ss, rfl, hsm, hm30, hge, hown, hevs, ⟨A2, n2, c2, A3, n3, c3, rfl, ho2, ho3, h2, h3⟩, hb2⟩
  obtain ⟨M, hM⟩ : ∃ M, M = foldF (ss.map (·.e)) := ⟨_, rfl⟩
  rw [← hM] at ho2 ho3 ⊢
  have HMd := Lib.hid hM
  obtain ⟨g', t', l1, l2, f'⟩ := M
  obtain ⟨A, c, rfl, hmc, _, hr⟩ := own_rd hown
  have Hsm := Lib.hid hsm
  have Hge := Lib.hid hge
  have Hevs := Lib.hid hevs
  have Hr := Lib.hid hr
  have Ho2 := Lib.hid ho2
  have Ho3 := Lib.hid ho3
  have Hbw2 := Lib.hid (Hb1.out.trans (hb2.mono Hb1.out.size))
  have HB4 := Lib.hid (show ∀ X, Blk ((w2.alloc (.cells (memRow ⟨g', t', l1, l2, f'⟩ A2 n2 c2 A3 n3 c3) 46)).alloc X) w2.heap.size 46 (memRow ⟨g', t', l1, l2, f'⟩ A2 n2 c2 A3 n3 c3) from fun X => (Blk.new w2 _ _).alloc _)
  have HB5 := Lib.hid (show ∀ X, Blk ((w2.alloc X).alloc (.cells zeroMv 46)) (w2.heap.size + 1) 46 zeroMv from fun X => by
    have := Blk.new (w2.alloc X) 46 zeroMv
    rw [World.size_alloc] at this
    exact this)
  have Hb3 := Lib.hid (show ∀ X Y, Below w2.heap.size w2 ((w2.alloc X).alloc Y) from fun X Y => ((Below.refl _ _).alloc (Nat.le_refl _) _).alloc (by simp) _)
  clear hsm hge hown hevs hr ho2 ho3 hb2 HE1 hM
  go_upto_region 6 with (fail)
  have hB4 := HB4.out (.cells zeroMv 46)
  have hB5 := HB5.out (.cells (memRow ⟨g', t', l1, l2, f'⟩ A2 n2 c2 A3 n3 c3) 46)
  have hb3 := Hb3.out (.cells (memRow ⟨g', t', l1, l2, f'⟩ A2 n2 c2 A3 n3 c3) 46) (.cells zeroMv 46)
  have hz3 : ((w2.alloc (.cells (memRow ⟨g', t', l1, l2, f'⟩ A2 n2 c2 A3 n3 c3) 46)).alloc (.cells zeroMv 46)).heap.size = w2.heap.size + 2 := by simp
  change Code.wp _ _ _ _ ((w2.alloc (.cells (memRow ⟨g', t', l1, l2, f'⟩ A2 n2 c2 A3 n3 c3) 46)).alloc (.cells zeroMv 46))
  generalize ((w2.alloc (.cells (memRow ⟨g', t', l1, l2, f'⟩ A2 n2 c2 A3 n3 c3) 46)).alloc (.cells zeroMv 46)) = w3 at hB4 hB5 hb3 hz3 ⊢
  obtain ⟨G, hG⟩ : ∃ G, G = w2.heap.size + 1 := ⟨_, rfl⟩
  rw [← hG] at hB5 ⊢
  have HG := Lib.hid hG
  have hG1 : w2.heap.size < G := by omega
  have hG3 : G + 1 ≤ w3.heap.size := by omega
  have hst := Lib.hid (show KpRel w3 G ss m (.slice none 0 0) (.int .i64 0) w3 from ⟨0, 0, 0, none, Nat.zero_le _, rfl, rfl, ⟨none, 0, 0, none, 0, 0, hB5, World.ownsRow_nil _ _ _ _, World.ownsRow_nil _ _ _ _, by decide, by decide⟩, World.ownsRow_nil _ _ _ _, Below.refl _ _, hG3⟩)
  have HB4 := Lib.hid hB4
  have Hb3 := Lib.hid hb3
  have hz3' := hb3.size
  clear hB4 hB5 hb3 hz3 hG HB5
  go_wp2_with fail
  go_loopw [6, 24] (fun vb i wr => KpRel w3 G ss m vb i wr) (fun _ i _ => m - (intOf i).toNat)
  case atStart => exact hst.out
  case round =>
    obtain ⟨k, nb, cb, Ab, hk, rfl, rfl, ⟨A5, n5, c5, A6, n6, c6, hMB, ho5, ho6, h5, h6⟩, hob, hb, hz⟩ := hrel
    have HMB := Lib.hid hMB
    have Ho5 := Lib.hid ho5
    have Ho6 := Lib.hid ho6
    have Hob := Lib.hid hob
    have Hb := Lib.hid hb
    have hb2r := Hb3.out.trans (hb.mono (by omega : w2.heap.size ≤ G))
    have Hb2r := Lib.hid hb2r
    have hzr := hb2r.size
    have hbf8 : ∀ x ∈ bookF 0 (((ss.map (·.e)).take k).map evB), x < 256 := bookF_lt 0 _ (fun r hr => (recs_fit (Hge.out.take k) r hr).2)
    have hbfl : (bookF 0 (((ss.map (·.e)).take k).map evB)).length ≤ 60180 := by
      have := book_len 0 _ (fun r hr => (recs_fit' (Hge.out.take k) r hr).1)
      rw [List.length_map, List.length_take] at this
      have h1 : min k (ss.map (·.e)).length ≤ 30 := by rw [List.length_map, Hsm.out]; omega
      have h2 := Nat.mul_le_mul_right 2006 h1
      omega
    obtain ⟨bk, hbk⟩ : ∃ bk, bk = bookF 0 (((ss.map (·.e)).take k).map evB) := ⟨_, rfl⟩
    rw [← hbk] at hbf8 hbfl Hob
    have Hbk := Lib.hid hbk
    have Hbf8 := Lib.hid hbf8
    obtain ⟨Mk, hMk⟩ : ∃ Mk, Mk = foldF ((ss.map (·.e)).take k) := ⟨_, rfl⟩
    rw [← hMk] at HMB Ho5 Ho6
    have HMk := Lib.hid hMk
    clear hMB ho5 ho6 hob hb hb2r hbk hbf8 hMk
    by_cases hlt : k < m
    · have hlt' : (k : Int) < (m : Int) := by omega
      obtain ⟨b, o, s, rfl, hbb, hs, hc⟩ := (Hr.out.below Hb2r.out).elem encE_len Hsm.out hlt
      have hown := own_below (Hevs.out s (List.mem_of_getElem? hs)) Hb2r.out (Nat.le_refl _)
      have hes : (ss.map (·.e))[k]? = some s.e := by rw [List.getElem?_map, hs]; rfl
      have hks := keep_step Hge.out (by rw [List.length_map, Hsm.out]; omega) hes
      rw [← HMk.out, ← Hbk.out] at hks
      obtain ⟨⟨ek, en, ec⟩, A7, n7, c7⟩ := s
      have c0 : wr.cell? ⟨b, o + k * 3, none⟩ = some (.int .i64 ek) := hc 0 _ rfl
      have c1 : wr.cell? ⟨b, o + k * 3 + 1, none⟩ = some (.int .i64 en) := hc 1 _ rfl
      have c2 : wr.cell? ⟨b, o + k * 3 + 2, none⟩ = some (.slice A7 n7 c7) := hc 2 _ rfl
      have Hown := Lib.hid hown
      have Hks := Lib.hid hks
      clear hs hc hown hes hks
      go_upto_region 9 with (fail)
      have hN := Blk.new wr 48 #[.int .i64 ek, .int .i64 en, .slice A7 n7 c7]
      have hb6 : Below wr.heap.size wr (wr.alloc (.cells #[.int .i64 ek, .int .i64 en, .slice A7 n7 c7] 48)) := (Below.refl _ _).alloc (Nat.le_refl _) _
      generalize wr.alloc (.cells #[.int .i64 ek, .int .i64 en, .slice A7 n7 c7] 48) = w6 at hN hb6 ⊢
      have hz6 := hb6.size
      have hM6 := HMB.out.below hb6 HMB.out.lt
      have ho5' := own_below Ho5.out hb6 (Nat.le_refl _)
      have ho6' := own_below Ho6.out hb6 (Nat.le_refl _)
      have hb9' := own_below Hob.out hb6 (Nat.le_refl _)
      have hs7 := own_below Hown.out hb6 (Nat.le_refl _)
      have HK := keep_any w6 Mk ⟨ek, en, ec⟩ A5 n5 c5 A6 n6 c6 A7 n7 c7 (.slice Ab nb cb) bk (SlC.own ho5') (SlC.own ho6') (SlC.own hs7) (SlB.own hb9') (by omega) Hbf8.out
      rw [Hks.out] at HK
      have HK := Lib.hid HK
      have HM6 := Lib.hid hM6
      have HN := Lib.hid hN
      have Hb6 := Lib.hid (Hb.out.trans (hb6.mono (by omega)))
      have m0 := hM6.cell 0 _ rfl
      have m1 := hM6.cell 1 _ rfl
      have m2 := hM6.cell 2 _ rfl
      have m3 := hM6.cell 3 _ rfl
      have m4 := hM6.cell 4 _ rfl
      have e0 := hN.cell 0 _ rfl
      have e1 := hN.cell 1 _ rfl
      have e2 := hN.cell 2 _ rfl
      have hG6 := hM6.lt
      clear hM6 hN hb6 ho5' ho6' hb9' hs7 c0 c1 c2
      go_wp2_with fail
      refine HK.out.mono ?_
      rintro e w7 ⟨v7, vb7, nb7, rfl, ⟨A8, n8, c8, A9, n9, c9, rfl, ho8, ho9, h8, h9⟩, hob7, hb7⟩
      obtain ⟨M', hM'⟩ : ∃ M', M' = foldF ((ss.map (·.e)).take (k + 1)) := ⟨_, rfl⟩
      simp only at ho8 ho9 hob7 ⊢
      rw [← hM'] at ho8 ho9 ⊢
      have HM' := Lib.hid hM'
      obtain ⟨g7, t7, l7, l8, f7⟩ := M'
      obtain ⟨Ab7, cb7, rfl, _, _, _⟩ := own_rd hob7
      have Ho8 := Lib.hid ho8
      have Ho9 := Lib.hid ho9
      have Hob7 := Lib.hid hob7
      have HM7 := Lib.hid (HM6.out.below hb7 hG6)
      have Hb7 := Lib.hid (Hb6.out.trans (hb7.mono (by omega)))
      have hz7 := hb7.size
      clear hM' ho8 ho9 hob7 hb7 m0 m1 m2 m3 m4 e0 e1 e2 HK
      go_upto_if 37 with (fail)
      have hN8 := Blk.new w7 46 (memRow ⟨g7, t7, l7, l8, f7⟩ A8 n8 c8 A9 n9 c9)
      have hb8 : Below w7.heap.size w7 (w7.alloc (.cells (memRow ⟨g7, t7, l7, l8, f7⟩ A8 n8 c8 A9 n9 c9) 46)) := (Below.refl _ _).alloc (Nat.le_refl _) _
      change Code.wp _ _ _ _ (w7.alloc (.cells (memRow ⟨g7, t7, l7, l8, f7⟩ A8 n8 c8 A9 n9 c9) 46))
      generalize w7.alloc (.cells (memRow ⟨g7, t7, l7, l8, f7⟩ A8 n8 c8 A9 n9 c9) 46) = w8 at hN8 hb8 ⊢
      have hM8 := HM7.out.below hb8 (by omega)
      have hz8 := hb8.size
      have Ho8 := Lib.hid (own_below Ho8.out hb8 (Nat.le_refl _))
      have Ho9 := Lib.hid (own_below Ho9.out hb8 (Nat.le_refl _))
      have Hob8 := Lib.hid (own_below Hob7.out hb8 (Nat.le_refl _))
      have Hb8 := Lib.hid (Hb7.out.trans (hb8.mono (by omega)))
      have HM8 := Lib.hid hM8
      have n0 := hN8.cell 0 _ rfl
      have n1 := hN8.cell 1 _ rfl
      have n2 := hN8.cell 2 _ rfl
      have n3 := hN8.cell 3 _ rfl
      have n4 := hN8.cell 4 _ rfl
      have m0 := hM8.cell 0 _ rfl
      have m1 := hM8.cell 1 _ rfl
      have m2 := hM8.cell 2 _ rfl
      have m3 := hM8.cell 3 _ rfl
      have m4 := hM8.cell 4 _ rfl
      have mf0 := hM8.free 0
      have mf1 := hM8.free 1
      have mf2 := hM8.free 2
      have mf3 := hM8.free 3
      have mf4 := hM8.free 4
      have hnx := show KpRel w3 G ss m (.slice Ab7 nb7 cb7) (.int .i64 ((k : Int) + 1)) (((((w8.setCell ⟨G, 0, none⟩ (.int .i64 g7)).setCell ⟨G, 1, none⟩ (.int .i64 t7)).setCell ⟨G, 2, none⟩ (.slice A8 n8 c8)).setCell ⟨G, 3, none⟩ (.slice A9 n9 c9)).setCell ⟨G, 4, none⟩ (.int .i64 f7)) from
        ⟨k + 1, nb7, cb7, Ab7, by omega, by go_num, rfl, by
          rw [← HM'.out]
          exact ⟨A8, n8, c8, A9, n9, c9, blk_set5 HM8.out (.int .i64 g7) (.int .i64 t7) (.slice A8 n8 c8) (.slice A9 n9 c9) (.int .i64 f7), own_set5 (own_mono Ho8.out (by omega)) (by omega) (.int .i64 g7) (.int .i64 t7) (.slice A8 n8 c8) (.slice A9 n9 c9) (.int .i64 f7), own_set5 (own_mono Ho9.out (by omega)) (by omega) (.int .i64 g7) (.int .i64 t7) (.slice A8 n8 c8) (.slice A9 n9 c9) (.int .i64 f7), h8, h9⟩,
          own_set5 (own_mono Hob8.out (by omega)) (by omega) (.int .i64 g7) (.int .i64 t7) (.slice A8 n8 c8) (.slice A9 n9 c9) (.int .i64 f7), below_set5 Hb8.out (Nat.le_refl _) (.int .i64 g7) (.int .i64 t7) (.slice A8 n8 c8) (.slice A9 n9 c9) (.int .i64 f7), by rw [size_set5]; omega⟩
      have Hnx := Lib.hid hnx
      clear hN8 hb8 hM8 hnx
      go_wp2_with fail
      go_roundw
      case rel => exact Hnx.out
      case measure => simp [intOf]; omega
    · obtain rfl : k = m := by omega
      have htk : (ss.map (·.e)).take k = ss.map (·.e) := List.take_of_length_le (by rw [List.length_map, Hsm.out]; omega)
      have hMM : Mk = ⟨g', t', l1, l2, f'⟩ := by rw [HMk.out, htk]; exact HMd.out.symm
      have hbk := back_good Hge.out
      have hbkb : bk = bookF 0 ((ss.map (·.e)).map evB) := by rw [Hbk.out, htk]
      have hBB := back_any wr (.slice Ab nb cb) bk (SlB.own Hob.out) (by omega) Hbf8.out
      rw [hbkb, hbk, ← HMd.out, List.length_map, Hsm.out] at hBB
      rw [hMM] at HMB Ho5 Ho6
      have HBB := Lib.hid hBB
      clear hbk hbkb hBB htk hMM
      have hB4 := HB4.out.below Hb.out hG1
      have HB4r := Lib.hid hB4
      clear hB4
      go_wp2_with fail
      refine HBB.out.mono ?_
      rintro e w7 ⟨v7, rfl, ⟨A8, n8, c8, A9, n9, c9, rfl, ho8, ho9, h8, h9⟩, hb7⟩
      simp only at ho8 ho9 ⊢
      have Ho8 := Lib.hid ho8
      have Ho9 := Lib.hid ho9
      have hz7 := hb7.size
      have HMB7 := Lib.hid (HMB.out.below hb7 (by omega))
      have HB47 := Lib.hid (HB4r.out.below hb7 (by omega))
      have Ho5 := Lib.hid (own_below Ho5.out hb7 (Nat.le_refl _))
      have Ho6 := Lib.hid (own_below Ho6.out hb7 (Nat.le_refl _))
      have Hb27 := Lib.hid (Hb2r.out.trans (hb7.mono hzr))
      clear ho8 ho9 hb7 HBB
      go_upto_region 15 with (fail)
      have hN8 := Blk.new w7 46 (memRow ⟨g', t', l1, l2, f'⟩ A8 n8 c8 A9 n9 c9)
      have hb8 : Below w7.heap.size w7 (w7.alloc (.cells (memRow ⟨g', t', l1, l2, f'⟩ A8 n8 c8 A9 n9 c9) 46)) := (Below.refl _ _).alloc (Nat.le_refl _) _
      change Code.wp _ _ _ _ (w7.alloc (.cells (memRow ⟨g', t', l1, l2, f'⟩ A8 n8 c8 A9 n9 c9) 46))
      generalize w7.alloc (.cells (memRow ⟨g', t', l1, l2, f'⟩ A8 n8 c8 A9 n9 c9) 46) = w8 at hN8 hb8 ⊢
      have hz8 := hb8.size
      have hMB8 := HMB7.out.below hb8 (by omega)
      have hB48 := HB47.out.below hb8 (by omega)
      have hb28 := Hb27.out.trans (hb8.mono (by omega))
      have s2 := SlC.own (own_below Ho2.out hb28 (Nat.le_refl _))
      have s3 := SlC.own (own_below Ho3.out hb28 (Nat.le_refl _))
      have s5 := SlC.own (own_below Ho5.out hb8 (Nat.le_refl _))
      have s6 := SlC.own (own_below Ho6.out hb8 (Nat.le_refl _))
      have s8 := SlC.own (own_below Ho8.out hb8 (Nat.le_refl _))
      have s9 := SlC.own (own_below Ho9.out hb8 (Nat.le_refl _))
      have hS1 := fsame_any w8 ⟨g', t', l1, l2, f'⟩ ⟨g', t', l1, l2, f'⟩ A8 n8 c8 A9 n9 c9 A5 n5 c5 A6 n6 c6 s8 s9 s5 s6 (by omega) (by omega) (by omega) (by omega)
      rw [same_self] at hS1
      have HS1 := Lib.hid hS1
      have HS2 := Lib.hid (show ∀ w', Below w8.heap.size w8 w' → Calls Try.prog 26 #[memV ⟨g', t', l1, l2, f'⟩ A8 n8 c8 A9 n9 c9, memV ⟨g', t', l1, l2, f'⟩ A2 n2 c2 A3 n3 c3] w' (BoolPost true w') from fun w' h => by
        have := fsame_any w' ⟨g', t', l1, l2, f'⟩ ⟨g', t', l1, l2, f'⟩ A8 n8 c8 A9 n9 c9 A2 n2 c2 A3 n3 c3 ((s8.below h).more h.size) ((s9.below h).more h.size) ((s2.below h).more h.size) ((s3.below h).more h.size) (by omega) (by omega) (by omega) (by omega)
        rwa [same_self] at this)
      have HN8 := Lib.hid hN8
      have HMB8 := Lib.hid hMB8
      have HB48 := Lib.hid hB48
      have Hb28 := Lib.hid hb28
      have hN8l := hN8.lt
      have a0 := hN8.cell 0 _ rfl
      have a1 := hN8.cell 1 _ rfl
      have a2 := hN8.cell 2 _ rfl
      have a3 := hN8.cell 3 _ rfl
      have a4 := hN8.cell 4 _ rfl
      have bb0 := hMB8.cell 0 _ rfl
      have bb1 := hMB8.cell 1 _ rfl
      have bb2 := hMB8.cell 2 _ rfl
      have bb3 := hMB8.cell 3 _ rfl
      have bb4 := hMB8.cell 4 _ rfl
      clear hN8 hb8 hMB8 hB48 hb28 s2 s3 s5 s6 s8 s9 hS1
      go_wp2_with fail
      refine HS1.out.mono ?_
      rintro e w9 ⟨rfl, hb9⟩
      have HS9 := Lib.hid (HS2.out w9 hb9)
      have Hb9 := Lib.hid hb9
      clear a0 a1 a2 a3 a4 bb0 bb1 bb2 bb3 bb4
      have hN9 := HN8.out.below hb9 hN8l
      have hB49 := HB48.out.below hb9 (by omega)
      have a0 := hN9.cell 0 _ rfl
      have a1 := hN9.cell 1 _ rfl
      have a2 := hN9.cell 2 _ rfl
      have a3 := hN9.cell 3 _ rfl
      have a4 := hN9.cell 4 _ rfl
      have bb0 := hB49.cell 0 _ rfl
      have bb1 := hB49.cell 1 _ rfl
      have bb2 := hB49.cell 2 _ rfl
      have bb3 := hB49.cell 3 _ rfl
      have bb4 := hB49.cell 4 _ rfl
      clear hb9 hN9 hB49 HS1 HS2
      go_wp2_with fail
      refine HS9.out.mono ?_
      rintro e w10 ⟨rfl, hb10⟩
      have HP := Lib.hid (show Below w.heap.size w w10 from Hbw2.out.trans ((Hb28.out.trans ((Hb9.out.trans (hb10.mono Hb9.out.size)).mono Hb28.out.size)).mono Hbw2.out.size))
      clear hb10 a0 a1 a2 a3 a4 bb0 bb1 bb2 bb3 bb4
      go_wp2_with fail
      go_ret
      exact ⟨rfl, HP.out⟩
end Go.Proofs.Ytaahpjjffggaiaa.fallSame
