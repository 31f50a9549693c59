/- The comparison of a stable sort of sent messages, and slices.rotateCmpFunc. Conditions: those typed. -/
import Derived.Test.YtpnefacignalpaaSwapR
import Derived.Test.YtpnefacignalpaaSeq
namespace Go.Proofs.Ytpnefacignalpaa
open Go.RowKit Go.Gy
set_option linter.unusedVariables false
set_option linter.unusedSimpArgs false
abbrev cmpV : Value := .func (.func 36) #[] #[]
def DueOk (x : SE) : Prop := 0 ≤ x.1 ∧ x.1 ≤ 1000000000
set_option maxRecDepth 100000 in
theorem cmp_sent (w : World) (dx kx sx tx qx cx dy ky sy ty qy cy : Int) (Ax Ay : Option Addr) (nx px ny py : Nat) (hx : 0 ≤ dx ∧ dx ≤ 1000000000) (hy : 0 ≤ dy ∧ dy ≤ 1000000000) :
    Calls Try.prog 36 #[.agg #[.int .i64 dx, .int .i64 kx, .int .i64 sx, .int .i64 tx, .int .i64 qx, .int .u32 cx, .slice Ax nx px], .agg #[.int .i64 dy, .int .i64 ky, .int .i64 sy, .int .i64 ty, .int .i64 qy, .int .u32 cy, .slice Ay ny py]] w fun e w' => e = .returned (.int .i64 (dx - dy)) ∧ Below w.heap.size w w' := by
  have hw : IntKind.i64.wrap (dx - dy) = dx - dy := by rw [IntKind.wrap_i64]; omega
  have hb := Lib.hid (((Below.refl w.heap.size w).alloc (Nat.le_refl _) (.cells #[.int .i64 dx, .int .i64 kx, .int .i64 sx, .int .i64 tx, .int .i64 qx, .int .u32 cx, .slice Ax nx px] 82)).alloc (by simp) (.cells #[.int .i64 dy, .int .i64 ky, .int .i64 sy, .int .i64 ty, .int .i64 qy, .int .u32 cy, .slice Ay ny py] 82))
  go_enter Try.func36, Try.ntmps36
  go_wp2
  go_ret
  exact ⟨rfl, hb.out⟩
/-- the row is there, and what was below it is as it was -/
def SwF (w : World) (base g n cap : Nat) (zs : List (SE × Nat)) (W : World) : Prop := GRow base g n cap zs W ∧ GroW g w W
theorem SwF.lasts (w : World) (base g n cap : Nat) (zs : List (SE × Nat)) : Lasts (SwF w base g n cap zs) := fun W W' h hb => ⟨SRow.below h.1 hb, h.2.trans (GroW.of_below hb)⟩
def RotRel (w : World) (base g n cap a m b : Nat) (xs : List (SE × Nat)) (i j : Value) (wr : World) : Prop := ∃ (s t : Nat) (ys : List (SE × Nat)), 0 < s ∧ 0 < t ∧ a + s ≤ m ∧ m + t ≤ b ∧ i = .int .i64 s ∧ j = .int .i64 t ∧ (∀ zs, RotIs (m - s) m (m + t) ys zs → RotIs a m b xs zs) ∧ GRow base g n cap ys wr ∧ GroW g w wr
set_option maxRecDepth 100000 in
set_option maxHeartbeats 4000000 in
theorem rotate_any (w : World) (base g n cap : Nat) (xs : List (SE × Nat)) (a m b : Nat) (fv : Value) (h : GRow base g n cap xs w) (ham : a < m) (hmb : m < b) (hb : b ≤ n) (hn : n ≤ 1000000) :
    Calls Try.prog 48 #[.slice (some ⟨g, 0, none⟩) n cap, .int .i64 a, .int .i64 m, .int .i64 b, fv] w fun e w' => e = .returned (.tuple #[]) ∧ ∃ ys, RotIs a m b xs ys ∧ GRow base g n cap ys w' ∧ GroW g w w' := by
  obtain ⟨i0, hi0⟩ : ∃ i0 : Nat, i0 = m - a := ⟨_, rfl⟩
  obtain ⟨j0, hj0⟩ : ∃ j0 : Nat, j0 = b - m := ⟨_, rfl⟩
  have hst := Lib.hid (show RotRel w base g n cap a m b xs (.int .i64 i0) (.int .i64 j0) w from ⟨i0, j0, xs, by omega, by omega, by omega, by omega, rfl, rfl, fun zs hz => by
    rw [hi0, hj0, show m - (m - a) = a by omega, show m + (b - m) = b by omega] at hz
    exact hz, h, GroW.refl _ _⟩)
  have hw1 : IntKind.i64.wrap ((m : Int) - (a : Int)) = (i0 : Int) := by rw [IntKind.wrap_i64]; omega
  have hw2 : IntKind.i64.wrap ((b : Int) - (m : Int)) = (j0 : Int) := by rw [IntKind.wrap_i64]; omega
  clear h hi0 hj0
  go_enter Try.func48, Try.ntmps48
  go_wp2_with fail
  go_loopw [10, 11] (fun i j wr => RotRel w base g n cap a m b xs i j wr) (fun i j _ => (intOf i).toNat + (intOf j).toNat)
  case atStart => exact hst.out
  case round =>
    clear hst hw1 hw2
    obtain ⟨s, t, ys, hs0, ht0, hsm, htb, rfl, rfl, hrot, hrow, hbw⟩ := hrel
    obtain ⟨p, hp⟩ : ∃ p : Nat, p = m - s := ⟨_, rfl⟩
    have hw3 : IntKind.i64.wrap ((m : Int) - (s : Int)) = (p : Int) := by rw [IntKind.wrap_i64]; omega
    by_cases hst : s = t
    · subst hst
      have HC := Lib.hid (swaprange_any wr base g n cap ys p m s fv hrow (by omega) (by omega) hn)
      have HR := Lib.hid hrot
      have HB := Lib.hid hbw
      have hc1 : (((s : Nat) : Int) != (s : Int)) = false := by simp
      have HP := Lib.hid hp
      have HSM := Lib.hid (show s ≤ m by omega)
      clear hrow hbw hrot hp
      go_wp2_with fail
      refine HC.out.mono ?_
      rintro e w2 ⟨rfl, zs, hz, hr2, hb2⟩
      rw [HP.out] at hz
      have HX := Lib.hid (show ∃ ys, RotIs a m b xs ys ∧ GRow base g n cap ys w2 ∧ GroW g w w2 from ⟨zs, HR.out zs (hz.rot HSM.out), hr2, HB.out.trans hb2⟩)
      clear hz hr2 hb2
      go_wp2
      go_end0
      exact ⟨rfl, HX.out⟩
    · have hc1 : ((s : Int) != (t : Int)) = true := bne_iff_ne.mpr (by omega)
      by_cases hgt : t < s
      · have hc2 : (t : Int) < (s : Int) := by omega
        obtain ⟨q, hq⟩ : ∃ q : Nat, q = s - t := ⟨_, rfl⟩
        have hw4 : IntKind.i64.wrap ((s : Int) - (t : Int)) = (q : Int) := by rw [IntKind.wrap_i64]; omega
        have HC := Lib.hid (swaprange_any wr base g n cap ys p m t fv hrow (by omega) (by omega) hn)
        have HR := Lib.hid (fun (w2 : World) (z : List (SE × Nat)) (hz : SwR p m t ys z) (hr2 : GRow base g n cap z w2) (hb2 : GroW g wr w2) => show RotRel w base g n cap a m b xs (.int .i64 q) (.int .i64 t) w2 from ⟨q, t, z, by omega, ht0, by omega, htb, rfl, rfl, fun zs hzs => hrot zs (RotIs.left hgt (by omega) (by rw [← hp]; exact hz) (by rw [← hq]; exact hzs)), hr2, hbw.trans hb2⟩)
        have HQ := Lib.hid hq
        clear hrow hbw hrot hp hq
        go_wp2_with fail
        refine HC.out.mono ?_
        rintro e w2 ⟨rfl, z, hz, hr2, hb2⟩
        have HX := Lib.hid (HR.out w2 z hz hr2 hb2)
        clear hz hr2 hb2
        go_wp2
        go_roundw
        case rel => exact HX.out
        case measure => have := HQ.out; simp [intOf]; omega
      · have hc2 : ¬ (t : Int) < (s : Int) := by omega
        obtain ⟨q, hq⟩ : ∃ q : Nat, q = t - s := ⟨_, rfl⟩
        obtain ⟨u, hu⟩ : ∃ u : Nat, u = m + t - s := ⟨_, rfl⟩
        have hw4 : IntKind.i64.wrap ((t : Int) - (s : Int)) = (q : Int) := by rw [IntKind.wrap_i64]; omega
        have hw5 : IntKind.i64.wrap ((m : Int) + (t : Int)) = (m : Int) + (t : Int) := by rw [IntKind.wrap_i64]; omega
        have hw6 : IntKind.i64.wrap ((m : Int) + (t : Int) - (s : Int)) = (u : Int) := by rw [IntKind.wrap_i64]; omega
        have HC := Lib.hid (swaprange_any wr base g n cap ys p u s fv hrow (by omega) (by omega) hn)
        have HR := Lib.hid (fun (w2 : World) (z : List (SE × Nat)) (hz : SwR p u s ys z) (hr2 : GRow base g n cap z w2) (hb2 : GroW g wr w2) => show RotRel w base g n cap a m b xs (.int .i64 s) (.int .i64 q) w2 from ⟨s, q, z, hs0, by omega, hsm, by omega, rfl, rfl, fun zs hzs => hrot zs (RotIs.right (by omega) (by omega) (by rw [← hp, ← hu]; exact hz) (by rw [← hq]; exact hzs)), hr2, hbw.trans hb2⟩)
        have HQ := Lib.hid hq
        clear hrow hbw hrot hp hq hu
        go_wp2_with fail
        refine HC.out.mono ?_
        rintro e w2 ⟨rfl, z, hz, hr2, hb2⟩
        have HX := Lib.hid (HR.out w2 z hz hr2 hb2)
        clear hz hr2 hb2
        go_wp2
        go_roundw
        case rel => exact HX.out
        case measure => have := HQ.out; simp [intOf]; omega
end Go.Proofs.Ytpnefacignalpaa
