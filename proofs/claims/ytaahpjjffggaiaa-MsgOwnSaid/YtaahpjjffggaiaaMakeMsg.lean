/- gantmake.Msg, gantkeep5.message: some message. Conditions: those typed. -/
import Derived.Test.YtaahpjjffggaiaaMakeCells
import Derived.Deep.DeepCutAuto
namespace Go.Proofs.Ytaahpjjffggaiaa
open Go.RowKit Go.Gy
set_option linter.unusedVariables false
abbrev row6 (k f t s q : Int) (v : Value) : Array Value := #[.int .i64 k, .int .i64 f, .int .i64 t, .int .i64 s, .int .u32 q, v]
def MkPost (w : World) (e : Ending) (w' : World) : Prop := ∃ (m : GMsg) (A : Option Addr) (n c : Nat), e = .returned (msgV m A n c) ∧ w'.ownsRow w.heap.size 24 2 (.slice A n c) n (m.cells.flatMap encC) ∧ m.cells.length = n ∧ (0 ≤ m.clock ∧ m.clock < 4294967296) ∧ n ≤ 8 ∧ Below w.heap.size w w'
def MkCut (w : World) (k f t s q : Int) (wx : World) : Prop := ∃ (cs : List Cell) (A : Option Addr) (nn c : Nat), Blk wx (w.heap.size + 2) 28 (row6 k f t s q (.slice A nn c)) ∧ Blk wx w.heap.size 28 (row6 0 0 0 0 0 (.slice none 0 0)) ∧ wx.ownsRow (w.heap.size + 3) 24 2 (.slice A nn c) nn (cs.flatMap encC) ∧ cs.length = nn ∧ nn ≤ 8 ∧ Below w.heap.size w wx
theorem blk_next {w w' : World} {g b : Nat} {t : TypeId} {cs : Array Value} (h : Blk w g t cs) (hg : w.grownBy w' (some b)) (hne : g ≠ b) : Blk w' g t cs := (hg.block g h.lt (fun e => hne (by injection e))).trans h
set_option maxRecDepth 100000 in
set_option maxHeartbeats 4000000 in
theorem msg_make (w : World) (v : Value) (l : List Int) (hv : SlI w w.heap.size v l) (hl : l.length ≤ 140737488355328) :
    Calls Try.prog 52 #[v] w (MkPost w) := by
  have hb0 : Below w.heap.size w ((w.alloc (.cells (row6 0 0 0 0 0 (.slice none 0 0)) 28)).alloc (.cells #[v] 111)) := ((Below.refl _ _).alloc (Nat.le_refl _) _).alloc (by simp) _
  have hst : StrAt ((w.alloc (.cells (row6 0 0 0 0 0 (.slice none 0 0)) 28)).alloc (.cells #[v] 111)) w.heap.size (w.heap.size + 1) := ⟨v, l, by
    have := Blk.new (w.alloc (.cells (row6 0 0 0 0 0 (.slice none 0 0)) 28)) 111 #[v]
    rw [World.size_alloc] at this
    exact this, hv.below hb0, hl⟩
  have hR : Blk ((w.alloc (.cells (row6 0 0 0 0 0 (.slice none 0 0)) 28)).alloc (.cells #[v] 111)) w.heap.size 28 (row6 0 0 0 0 0 (.slice none 0 0)) := (Blk.new w _ _).alloc _
  have hs0 : ((w.alloc (.cells (row6 0 0 0 0 0 (.slice none 0 0)) 28)).alloc (.cells #[v] 111)).heap.size = w.heap.size + 2 := by simp
  have HN0 := Lib.hid (next_any _ w.heap.size (w.heap.size + 1) 4 hst (by omega) (by omega) (by omega))
  have HB0 := Lib.hid hb0
  have HR0 := Lib.hid hR
  have HS0 := Lib.hid hs0
  obtain ⟨A, n, c, rfl, _⟩ := id hv
  clear hst hb0 hR hs0 hv
  go_enter Try.func52, Try.ntmps52
  go_wp2_with fail
  refine HN0.out.mono ?_
  rintro e w1 ⟨k, rfl, hk0, hk1, hst1, hg1, hs1⟩
  rw [HS0.out] at hs1
  have HB1 := Lib.hid (below_next HB0.out (by omega) (by rw [HS0.out]; omega) hg1)
  have HR1 := Lib.hid (blk_next HR0.out hg1 (by omega))
  have HS1 := Lib.hid hs1
  have HN1 := Lib.hid (next_any w1 w.heap.size (w.heap.size + 1) 4 hst1 (by omega) (by omega) (by omega))
  clear hst1 hg1 hs1 HN0 HB0 HR0 HS0
  go_wp2_with fail
  refine HN1.out.mono ?_
  rintro e w2 ⟨f, rfl, hf0, hf1, hst2, hg2, hs2⟩
  rw [HS1.out] at hs2
  have HB2 := Lib.hid (below_next HB1.out (by omega) (by rw [HS1.out]; omega) hg2)
  have HR2 := Lib.hid (blk_next HR1.out hg2 (by omega))
  have HS2 := Lib.hid hs2
  have HN2 := Lib.hid (next_any w2 w.heap.size (w.heap.size + 1) 4 hst2 (by omega) (by omega) (by omega))
  clear hst2 hg2 hs2 HN1 HB1 HR1 HS1
  go_wp2_with fail
  refine HN2.out.mono ?_
  rintro e w3 ⟨t, rfl, ht0, ht1, hst3, hg3, hs3⟩
  rw [HS2.out] at hs3
  have HB3 := Lib.hid (below_next HB2.out (by omega) (by rw [HS2.out]; omega) hg3)
  have HR3 := Lib.hid (blk_next HR2.out hg3 (by omega))
  have HS3 := Lib.hid hs3
  have HN3 := Lib.hid (next_any w3 w.heap.size (w.heap.size + 1) 1000 hst3 (by omega) (by omega) (by omega))
  clear hst3 hg3 hs3 HN2 HB2 HR2 HS2
  go_wp2_with fail
  refine HN3.out.mono ?_
  rintro e w4 ⟨s, rfl, hs0, hs1, hst4, hg4, hs4⟩
  rw [HS3.out] at hs4
  have HB4 := Lib.hid (below_next HB3.out (by omega) (by rw [HS3.out]; omega) hg4)
  have HR4 := Lib.hid (blk_next HR3.out hg4 (by omega))
  have HS4 := Lib.hid hs4
  have HN4 := Lib.hid (next_any w4 w.heap.size (w.heap.size + 1) 4294967296 hst4 (by omega) (by omega) (by omega))
  clear hst4 hg4 hs4 HN3 HB3 HR3 HS3
  go_wp2_with fail
  refine HN4.out.mono ?_
  rintro e w5 ⟨q, rfl, hq0, hq1, hst5, hg5, hs5⟩
  rw [HS4.out] at hs5
  have HB5 := Lib.hid (below_next HB4.out (by omega) (by rw [HS4.out]; omega) hg5)
  have HR5 := Lib.hid (blk_next HR4.out hg5 (by omega))
  have HS5 := Lib.hid hs5
  clear hg5 HN4 HB4 HR4 HS4
  have hqw : IntKind.u32.wrap q = q := by rw [IntKind.wrap_u32']; omega
  have hk := Blk.new w5 28 (row6 k f t s q (.slice none 0 0))
  rw [hs5] at hk
  obtain ⟨v', l', hsb, hsv, hsl⟩ := hst5
  have hcs := hsb.alloc (.cells (row6 k f t s q (.slice none 0 0)) 28)
  have hcs0 := hcs.cell 0 _ rfl
  have hR5 := HR5.out.alloc (.cells (row6 k f t s q (.slice none 0 0)) 28)
  have hbk : Below w.heap.size w (w5.alloc (.cells (row6 k f t s q (.slice none 0 0)) 28)) := HB5.out.alloc (by rw [hs5]; omega) _
  have HK := Lib.hid hk
  have HR := Lib.hid hR5
  have HBK := Lib.hid hbk
  have a0 := hk.cell 0 _ rfl
  obtain ⟨Av, nv, cv, rfl, _⟩ := id hsv
  have HSV := Lib.hid hsv
  clear hk hR5 hbk hsb hsv hcs HR5 HB5
  go_upto_if 22 with (fail)
  go_cut [] (fun wx => MkCut w k f t s q wx)
  case first =>
    by_cases hk3 : k = 3
    · have hne : (k != 3) = false := by simpa using hk3
      have HP := Lib.hid (show MkCut w k f t s q (w5.alloc (.cells (row6 k f t s q (.slice none 0 0)) 28)) from ⟨[], none, 0, 0, HK.out, HR.out, World.ownsRow_nil _ _ _ _, rfl, by omega, HBK.out⟩)
      clear hk3
      go_wp2_with fail
      go_meet
      exact HP.out
    · have hne : (k != 3) = true := by simpa using hk3
      have HC := Lib.hid (cells_any (w5.alloc (.cells (row6 k f t s q (.slice none 0 0)) 28)) _ l' ((HSV.out.below ((Below.refl w.heap.size w5).alloc (by rw [hs5]; omega) _)).more (by rw [World.size_alloc, hs5]; omega)) hsl)
      clear hk3
      go_wp2_with fail
      refine HC.out.mono ?_
      rintro e w6 ⟨v6, cs, rfl, hcs8, hcsf, hown6, hb6⟩
      have hz6 : (w5.alloc (.cells (row6 k f t s q (.slice none 0 0)) 28)).heap.size = w.heap.size + 2 + 1 := by rw [World.size_alloc, hs5]
      rw [hz6] at hown6 hb6
      obtain ⟨nn, hnn⟩ : ∃ nn, nn = cs.length := ⟨_, rfl⟩
      rw [← hnn] at hown6 hcs8
      obtain ⟨A6, c6, rfl, hc6, _, _⟩ := own_rd hown6
      have hk6 := HK.out.below hb6 (by omega)
      have hR6 := HR.out.below hb6 (by omega)
      have HP := Lib.hid (show MkCut w k f t s q (w6.setCell ⟨w.heap.size + 2, 5, none⟩ (.slice A6 nn c6)) from ⟨cs, A6, nn, c6, hk6.set 5 _, hR6.far (p := ⟨w.heap.size + 2, 5, none⟩) (by show w.heap.size ≠ w.heap.size + 2; omega) _, ownsRow_setCell_below hown6 (by show w.heap.size + 2 < _; omega) _, hnn.symm, hcs8, (HBK.out.trans (hb6.mono (by omega))).setCell (p := ⟨w.heap.size + 2, 5, none⟩) (by show w.heap.size ≤ w.heap.size + 2; omega) _⟩)
      have a5 := hk6.cell 5 _ rfl
      have af := hk6.free 5
      clear HC hown6 hb6 hnn hk6 hR6 hz6
      go_wp2_with fail
      go_meet
      exact HP.out
  case rest =>
    obtain ⟨cs, A6, nn, c6, hk6, hR6, hown6, hcl, hcs8, hb6⟩ := hcut
    have HZ := Lib.hid ((((((hR6.set 0 (.int .i64 k)).set 1 (.int .i64 f)).set 2 (.int .i64 t)).set 3 (.int .i64 s)).set 4 (.int .u32 q)).set 5 (.slice A6 nn c6))
    have Hown6 := Lib.hid hown6
    have HB6 := Lib.hid hb6
    have Hcl := Lib.hid hcl
    have a0 := hk6.cell 0 _ rfl
    have a1 := hk6.cell 1 _ rfl
    have a2 := hk6.cell 2 _ rfl
    have a3 := hk6.cell 3 _ rfl
    have a4 := hk6.cell 4 _ rfl
    have a5 := hk6.cell 5 _ rfl
    have r0 := hR6.cell 0 _ rfl
    have r1 := hR6.cell 1 _ rfl
    have r2 := hR6.cell 2 _ rfl
    have r3 := hR6.cell 3 _ rfl
    have r4 := hR6.cell 4 _ rfl
    have r5 := hR6.cell 5 _ rfl
    have rf0 := hR6.free 0
    have rf1 := hR6.free 1
    have rf2 := hR6.free 2
    have rf3 := hR6.free 3
    have rf4 := hR6.free 4
    have rf5 := hR6.free 5
    clear hk6 hR6 hown6 hb6 hcl HK HR HBK HSV hs5 hcs0 hsl
    go_wp2_with fail
    refine bodyPost_ret (results_cell_row Try.results52 _ _ w.heap.size 28 _ (0, 0) _ rfl HZ.out Try.underlying28 rfl (by kernel_rfl)) rfl ?_
    refine ⟨⟨k, f, t, s, q, cs⟩, A6, nn, c6, rfl, ?_, Hcl.out, ⟨hq0, hq1⟩, hcs8, ?_⟩
    · refine own_mono (base := w.heap.size + 3) ?_ (by omega)
      repeat' (refine ownsRow_setCell_below ?_ (by first | (show w.heap.size < _; omega) | (show w.heap.size + 2 < _; omega)) _)
      exact Hown6.out
    · repeat' (refine Below.setCell ?_ (by first | (show w.heap.size ≤ w.heap.size; omega) | (show w.heap.size ≤ w.heap.size + 2; omega)) _)
      exact HB6.out
set_option maxRecDepth 100000 in
set_option maxHeartbeats 4000000 in
theorem message_any (w : World) (v : Value) (l : List Int) (hv : SlI w w.heap.size v l) (hl : l.length ≤ 140737488355328) :
    Calls Try.prog 14 #[v] w (MkPost w) := by
  have hb0 : Below w.heap.size w (w.alloc (.cells (row6 0 0 0 0 0 (.slice none 0 0)) 28)) := (Below.refl _ _).alloc (Nat.le_refl _) _
  have HM := Lib.hid (msg_make (w.alloc (.cells (row6 0 0 0 0 0 (.slice none 0 0)) 28)) v l ((hv.below hb0).more (by simp)) hl)
  have HB0 := Lib.hid hb0
  have HR0 := Lib.hid (Blk.new w 28 (row6 0 0 0 0 0 (.slice none 0 0)))
  obtain ⟨A, n, c, rfl, _⟩ := id hv
  clear hb0 hv
  go_enter Try.func14, Try.ntmps14
  go_wp2_with fail
  refine HM.out.mono ?_
  rintro e w1 ⟨⟨k, f, t, s, q, cs⟩, A1, nn, c1, rfl, hat, hcl, hck, hn8, hb1⟩
  rw [World.size_alloc] at hat
  have hR6 := HR0.out.below hb1 (by simp)
  have HZ := Lib.hid ((((((hR6.set 0 (.int .i64 k)).set 1 (.int .i64 f)).set 2 (.int .i64 t)).set 3 (.int .i64 s)).set 4 (.int .u32 q)).set 5 (.slice A1 nn c1))
  have HB1 := Lib.hid (HB0.out.trans (hb1.mono (by simp)))
  have HC := Lib.hid hck
  have Hcl := Lib.hid hcl
  have Hat := Lib.hid hat
  have r0 := hR6.cell 0 _ rfl
  have r1 := hR6.cell 1 _ rfl
  have r2 := hR6.cell 2 _ rfl
  have r3 := hR6.cell 3 _ rfl
  have r4 := hR6.cell 4 _ rfl
  have r5 := hR6.cell 5 _ rfl
  have rf0 := hR6.free 0
  have rf1 := hR6.free 1
  have rf2 := hR6.free 2
  have rf3 := hR6.free 3
  have rf4 := hR6.free 4
  have rf5 := hR6.free 5
  clear hR6 hat hck hcl hb1 HM HR0 HB0
  go_wp2_with fail
  refine bodyPost_ret (results_cell_row Try.results14 _ _ w.heap.size 28 _ (0, 0) _ rfl HZ.out Try.underlying28 rfl (by kernel_rfl)) rfl ?_
  refine ⟨⟨k, f, t, s, q, cs⟩, A1, nn, c1, rfl, ?_, Hcl.out, HC.out, hn8, ?_⟩
  · refine own_mono (base := w.heap.size + 1) ?_ (by omega)
    repeat' (refine ownsRow_setCell_below ?_ (by show w.heap.size < _; omega) _)
    exact Hat.out
  · repeat' (refine Below.setCell ?_ (by show w.heap.size ≤ w.heap.size; omega) _)
    exact HB1.out
end Go.Proofs.Ytaahpjjffggaiaa
