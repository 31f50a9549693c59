/- msg.Copy: its cells lie in memory of the call's own. Conditions: those typed. -/
import Derived.Test.YtpnefacignalpaaMsg
namespace Go.Proofs.Ytpnefacignalpaa
open Go.RowKit Go.Gy
set_option linter.unusedVariables false
set_option maxRecDepth 100000 in
set_option maxHeartbeats 2000000 in
theorem copy_own (w : World) (a : GMsg) (A : Option Addr) (n c : Nat) (ha : MsgAt w w.heap.size a A n c) :
    Calls Try.prog 34 #[msgV a A n c] w fun e w' => ∃ A' c', e = .returned (msgV a A' n c') ∧ w'.ownsRow w.heap.size 88 2 (.slice A' n c') n (a.cells.flatMap encC) ∧ Below w.heap.size w w' := by
  obtain ⟨k, f, t, s, q, cs⟩ := a
  have hbel : Below w.heap.size w (((w.alloc (.cells #[.int .i64 k, .int .i64 f, .int .i64 t, .int .i64 s, .int .u32 q, .slice A n c] 43))).alloc (.cells #[.int .i64 0, .int .i64 0, .int .i64 0, .int .i64 0, .int .u32 0, .slice none 0 0] 43)) := ((Below.refl _ _).alloc (Nat.le_refl _) _).alloc (by simp) _
  have hlen := ha.len
  have hbd := ha.bound
  have hcl := clone_cells (((w.alloc (.cells #[.int .i64 k, .int .i64 f, .int .i64 t, .int .i64 s, .int .u32 q, .slice A n c] 43))).alloc (.cells #[.int .i64 0, .int .i64 0, .int .i64 0, .int .i64 0, .int .u32 0, .slice none 0 0] 43)) A n c cs ha.none_ ha.len ha.bound ((ha.rd.below hbel).more (by simp; omega))
  have Hc := Lib.hid hcl
  have Hb := Lib.hid hbel
  have Hl := Lib.hid hlen
  clear hcl hbel ha hlen
  go_enter Try.func34, Try.ntmps34
  go_wp2_with fail
  refine Hc.out.mono ?_
  rintro e w1 ⟨v, rfl, hown, hb1⟩
  obtain ⟨A1, c1, rfl, hnc, _, hr1⟩ := own_rd hown
  have hz1 := hb1.size
  simp only [World.size_alloc] at hz1 hb1 hown
  have k0 : Blk w1 w.heap.size 43 #[.int .i64 k, .int .i64 f, .int .i64 t, .int .i64 s, .int .u32 q, .slice A n c] := ((Blk.new w 43 _).alloc _).below hb1 (by omega)
  have k1 : Blk w1 (w.heap.size + 1) 43 #[.int .i64 0, .int .i64 0, .int .i64 0, .int .i64 0, .int .u32 0, .slice none 0 0] := (by simpa using Blk.new (w.alloc _) 43 _ : Blk _ (w.heap.size + 1) 43 _).below hb1 (by omega)
  have a0 := k0.cell 0 _ rfl
  have a1 := k0.cell 1 _ rfl
  have a2 := k0.cell 2 _ rfl
  have a3 := k0.cell 3 _ rfl
  have a4 := k0.cell 4 _ rfl
  have a5 := k0.cell 5 _ rfl
  have af := k0.free 5
  have b0 := k1.cell 0 _ rfl
  have b1 := k1.cell 1 _ rfl
  have b2 := k1.cell 2 _ rfl
  have b3 := k1.cell 3 _ rfl
  have b4 := k1.cell 4 _ rfl
  have b5 := k1.cell 5 _ rfl
  have bf0 := k1.free 0
  have bf1 := k1.free 1
  have bf2 := k1.free 2
  have bf3 := k1.free 3
  have bf4 := k1.free 4
  have bf5 := k1.free 5
  have HB1 := Lib.hid hb1
  have HO := Lib.hid hown
  have HK := Lib.hid (show A1 = none → n = 0 ∧ c1 = 0 from own_none hown)
  have HZ := Lib.hid ((((((((k1.far (p := ⟨w.heap.size, 5, none⟩) (by simp) (.slice A1 n c1)).set 0 (.int .i64 k)).set 1 (.int .i64 f)).set 2 (.int .i64 t)).set 3 (.int .i64 s)).set 4 (.int .u32 q)).set 5 (.slice A1 n c1)))
  clear hb1 hown k0 k1
  go_wp2
  refine bodyPost_ret (results_cell_row Try.results34 _ _ (w.heap.size + 1) 43 _ (0, 0) _ rfl HZ.out Try.underlying43 rfl (by kernel_rfl)) rfl ?_
  refine ⟨A1, c1, rfl, ?_, ?_⟩
  · refine own_mono (base := w.heap.size + 2) ?_ (by omega)
    repeat' (refine ownsRow_setCell_below ?_ (by first | (show w.heap.size < _; omega) | (show w.heap.size + 1 < _; omega)) _)
    exact HO.out
  · have hb : Below w.heap.size w w1 := Hb.out.trans (HB1.out.mono (by omega))
    repeat' (refine Below.setCell ?_ (by first | (show w.heap.size ≤ w.heap.size; omega) | (show w.heap.size ≤ w.heap.size + 1; omega)) _)
    exact hb
end Go.Proofs.Ytpnefacignalpaa
