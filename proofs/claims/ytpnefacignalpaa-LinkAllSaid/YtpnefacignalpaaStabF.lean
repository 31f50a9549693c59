/- slices.stableCmpFunc and slices.SortStableFunc at sent messages. Conditions: those typed. -/
import Derived.Test.YtpnefacignalpaaStabE
import Derived.Test.YtpnefacignalpaaStabQ
namespace Go.Proofs.Ytpnefacignalpaa
open Go.RowKit Go.Gy
set_option linter.unusedVariables false
set_option linter.unusedSimpArgs false
def StF (w : World) (base g n cap : Nat) (xs : List (SE × Nat)) (a b : Value) (wr : World) : Prop := ∃ (k A : Nat) (ys : List (SE × Nat)), Hid (A = k * 20) ∧ a = .int .i64 A ∧ b = .int .i64 ((A : Int) + 20) ∧ A ≤ n ∧ First dueE 20 n k ys ∧ ys.Perm xs ∧ GRow base g n cap ys wr ∧ GroW g w wr
def StB (w : World) (base g n cap : Nat) (xs : List (SE × Nat)) (b : Value) (wr : World) : Prop := ∃ (B : Nat) (ys : List (SE × Nat)), 1 ≤ B ∧ B ≤ 2000020 ∧ b = .int .i64 B ∧ Blocks dueE B n ys ∧ ys.Perm xs ∧ GRow base g n cap ys wr ∧ GroW g w wr
def StM (w : World) (base g n cap B : Nat) (xs : List (SE × Nat)) (a b : Value) (wr : World) : Prop := ∃ (k A : Nat) (ys : List (SE × Nat)), Hid (A = k * (2 * B)) ∧ a = .int .i64 A ∧ b = .int .i64 ((A : Int) + 2 * (B : Int)) ∧ A ≤ n ∧ Mix dueE B n k ys ∧ ys.Perm xs ∧ GRow base g n cap ys wr ∧ GroW g w wr
set_option maxRecDepth 100000 in
set_option maxHeartbeats 4000000 in
theorem stable_any (w : World) (base g n cap : Nat) (xs : List (SE × Nat)) (h : GRow base g n cap xs w) (hd : DuesOk xs) (hn : n ≤ 1000000) (hix : ∀ p q x y, p < q → q < n → xs[p]? = some x → xs[q]? = some y → x.2 < y.2) :
    Calls Try.prog 42 #[.slice (some ⟨g, 0, none⟩) n cap, .int .i64 n, .func (.func 36) #[] #[]] w fun e w' => e = .returned (.tuple #[]) ∧ ∃ ys, ys.Perm xs ∧ OrdOn (ltT dueE) 0 n ys ∧ GRow base g n cap ys w' ∧ GroW g w w' := by
  have HD := Lib.hid hd
  have hst := Lib.hid (show StF w base g n cap xs (.int .i64 0) (.int .i64 20) w from ⟨0, 0, xs, Lib.hid (by simp), rfl, rfl, Nat.zero_le _, First.start hix, List.Perm.refl _, h, GroW.refl _ _⟩)
  clear h hix hd
  go_enter Try.func42, Try.ntmps42
  go_wp2_with fail
  go_loopw [7, 8] (fun a b wr => StF w base g n cap xs a b wr) (fun _ b _ => n + 21 - (intOf b).toNat)
  case atStart => exact hst.out
  case round =>
    clear hst
    obtain ⟨k, A, ys, HA, rfl, rfl, hAn, hf, hperm, hrow, hbw⟩ := hrel
    have hk1 : (k + 1) * 20 = A + 20 := by have := HA.out; omega
    have HK1 := Lib.hid hk1
    clear hk1
    by_cases hin : A + 20 ≤ n
    · have hi1 : (A : Int) + 20 ≤ (n : Int) := by omega
      have hw1 : IntKind.i64.wrap ((A : Int) + 20 + 20) = (A : Int) + 20 + 20 := by rw [IntKind.wrap_i64]; omega
      have hins := insertion_any wr base g n cap ys A (A + 20) hrow (HD.out.perm hperm) (by omega) hin hn (fun q r x y h1 h2 h3 => hf.rest q r x y (by rw [← HA.out]; exact h1) h2 (by omega))
      rw [show ((A + 20 : Nat) : Int) = (A : Int) + 20 by omega] at hins
      have HINS := Lib.hid hins
      have HST := Lib.hid (fun (W : World) (zs : List (SE × Nat)) (h1 : MPost dueE A (A + 20) ys zs) (h2 : GRow base g n cap zs W) (h3 : GroW g wr W) => show StF w base g n cap xs (.int .i64 ((A : Int) + 20)) (.int .i64 ((A : Int) + 20 + 20)) W from ⟨k + 1, A + 20, zs, Lib.hid HK1.out.symm, by simp, by simp, hin, hf.step (by rw [HK1.out]; exact hin) (by rw [HK1.out, ← HA.out]; exact h1), h1.seg.perm.trans hperm, h2, hbw.trans h3⟩)
      clear hf hperm hrow hbw hins
      go_wp2_with fail
      refine HINS.out.mono ?_
      rintro e w2 ⟨rfl, zs, h1, h2, h3⟩
      have HX := Lib.hid (HST.out w2 zs h1 h2 h3)
      clear h1 h2 h3 HST HINS
      go_wp2_with fail
      go_roundw
      case rel => exact HX.out
      case measure => simp [intOf]; omega
    · have hi1 : ¬ (A : Int) + 20 ≤ (n : Int) := by omega
      have HINS := Lib.hid (insertion_any wr base g n cap ys A n hrow (HD.out.perm hperm) hAn (Nat.le_refl _) hn (fun q r x y h1 h2 h3 => hf.rest q r x y (by rw [← HA.out]; exact h1) h2 h3))
      have HST := Lib.hid (fun (W : World) (zs : List (SE × Nat)) (h1 : MPost dueE A n ys zs) (h2 : GRow base g n cap zs W) (h3 : GroW g wr W) => show StB w base g n cap xs (.int .i64 20) W from ⟨20, zs, by omega, by omega, rfl, hf.last (by rw [HK1.out]; omega) (by rw [← HA.out]; exact h1), h1.seg.perm.trans hperm, h2, hbw.trans h3⟩)
      clear hf hperm hrow hbw
      go_wp2_with fail
      refine HINS.out.mono ?_
      rintro e w2 ⟨rfl, zs, h1, h2, h3⟩
      have HX := Lib.hid (HST.out w2 zs h1 h2 h3)
      clear h1 h2 h3 HST HINS HK1 HA hin hi1
      go_wp2_with fail
      go_loopw [6] (fun b wr => StB w base g n cap xs b wr) (fun b _ => n - (intOf b).toNat)
      case atStart => exact HX.out
      case round =>
        clear HX
        obtain ⟨B, ys, hB1, hB2, rfl, hbl, hperm, hrow, hbw⟩ := hrel
        by_cases hin : B < n
        · have hi1 : (B : Int) < (n : Int) := by omega
          have hw1 : IntKind.i64.wrap (2 * (B : Int)) = 2 * (B : Int) := by rw [IntKind.wrap_i64]; omega
          have hw2 : IntKind.i64.wrap ((B : Int) * 2) = 2 * (B : Int) := by rw [IntKind.wrap_i64]; omega
          have hst2 := Lib.hid (show StM w base g n cap B xs (.int .i64 0) (.int .i64 (2 * (B : Int))) wr from ⟨0, 0, ys, Lib.hid (by simp), rfl, by simp, Nat.zero_le _, Mix.start hbl, hperm, hrow, hbw⟩)
          clear hbl hperm hrow hbw
          go_wp2_with fail
          go_loopw [7, 8] (fun a b wr => StM w base g n cap B xs a b wr) (fun _ b _ => n + 1 - (intOf b).toNat)
          case atStart => exact hst2.out
          case round =>
            clear hst2
            obtain ⟨k, A, ys, HA, rfl, rfl, hAn, hf, hperm, hrow, hbw⟩ := hrel
            have HK1 := Lib.hid (show (k + 1) * (2 * B) = A + 2 * B by rw [Nat.succ_mul, ← HA.out])
            have hw3 : IntKind.i64.wrap ((A : Int) + (B : Int)) = (A : Int) + (B : Int) := by rw [IntKind.wrap_i64]; omega
            by_cases hin2 : A + 2 * B ≤ n
            · have hi2 : (A : Int) + 2 * (B : Int) ≤ (n : Int) := by omega
              have hw4 : IntKind.i64.wrap ((A : Int) + 2 * (B : Int) + 2 * (B : Int)) = (A : Int) + 2 * (B : Int) + 2 * (B : Int) := by rw [IntKind.wrap_i64]; omega
              have hsm := symmerge_any wr base g n cap ys A (A + B) (A + 2 * B) hrow (HD.out.perm hperm) (by omega) (by omega) hin2 hn (by
                have := hf.pre (by rw [HK1.out]; exact hin2)
                rw [HK1.out, ← HA.out] at this
                exact this)
              rw [show ((A + B : Nat) : Int) = (A : Int) + (B : Int) by omega, show ((A + 2 * B : Nat) : Int) = (A : Int) + 2 * (B : Int) by omega] at hsm
              have HSM := Lib.hid hsm
              have HST := Lib.hid (fun (W : World) (zs : List (SE × Nat)) (h1 : MPost dueE A (A + 2 * B) ys zs) (h2 : GRow base g n cap zs W) (h3 : GroW g wr W) => show StM w base g n cap B xs (.int .i64 ((A : Int) + 2 * (B : Int))) (.int .i64 ((A : Int) + 2 * (B : Int) + 2 * (B : Int))) W from ⟨k + 1, A + 2 * B, zs, Lib.hid HK1.out.symm, by simp, by simp, hin2, hf.step (by rw [HK1.out]; exact hin2) (by rw [HK1.out, ← HA.out]; exact h1), h1.seg.perm.trans hperm, h2, hbw.trans h3⟩)
              clear hf hperm hrow hbw hsm
              go_wp2_with fail
              refine HSM.out.mono ?_
              rintro e w3 ⟨rfl, zs, h1, h2, h3⟩
              have HX := Lib.hid (HST.out w3 zs h1 h2 h3)
              clear h1 h2 h3 HST HSM
              go_wp2_with fail
              go_roundw
              case rel => exact HX.out
              case measure => simp [intOf]; omega
            · have hi2 : ¬ (A : Int) + 2 * (B : Int) ≤ (n : Int) := by omega
              have HST := Lib.hid (fun (W : World) (zs : List (SE × Nat)) (h1 : MPost dueE A n ys zs) (h2 : GRow base g n cap zs W) (h3 : GroW g wr W) => show StB w base g n cap xs (.int .i64 (2 * (B : Int))) W from ⟨2 * B, zs, by omega, by omega, by simp, hf.last (by rw [HK1.out]; omega) (by rw [← HA.out]; exact h1), h1.seg.perm.trans hperm, h2, hbw.trans h3⟩)
              by_cases hin3 : A + B < n
              · have hi3 : (A : Int) + (B : Int) < (n : Int) := by omega
                have hsm := symmerge_any wr base g n cap ys A (A + B) n hrow (HD.out.perm hperm) (by omega) hin3 (Nat.le_refl _) hn (by
                  have := hf.pre2 (by rw [← HA.out]; exact hin3) (by rw [HK1.out]; omega)
                  rw [← HA.out] at this
                  exact this)
                rw [show ((A + B : Nat) : Int) = (A : Int) + (B : Int) by omega] at hsm
                have HSM := Lib.hid hsm
                clear hf hperm hrow hbw hsm
                go_wp2_with fail
                refine HSM.out.mono ?_
                rintro e w3 ⟨rfl, zs, h1, h2, h3⟩
                have HX := Lib.hid (HST.out w3 zs h1 h2 h3)
                clear h1 h2 h3 HST HSM
                go_wp2_with fail
                go_roundw
                case rel => exact HX.out
                case measure => simp [intOf]; omega
              · have hi3 : ¬ (A : Int) + (B : Int) < (n : Int) := by omega
                have HX := Lib.hid (HST.out wr ys (by
                  have := hf.none (by rw [← HA.out]; omega)
                  rw [← HA.out] at this
                  exact this) hrow (GroW.refl _ _))
                clear hf hperm hrow hbw HST
                go_wp2_with fail
                go_roundw
                case rel => exact HX.out
                case measure => simp [intOf]; omega
        · have hi1 : ¬ (B : Int) < (n : Int) := by omega
          have HX := Lib.hid (show ∃ ys, ys.Perm xs ∧ OrdOn (ltT dueE) 0 n ys ∧ GRow base g n cap ys wr ∧ GroW g w wr from ⟨ys, hperm, hbl.all (by omega), hrow, hbw⟩)
          clear hbl hperm hrow hbw
          go_wp2_with fail
          go_end0
          exact ⟨rfl, HX.out⟩
set_option maxRecDepth 100000 in
theorem sortstable_any (w : World) (base g n cap : Nat) (xs : List (SE × Nat)) (h : GRow base g n cap xs w) (hd : DuesOk xs) (hn : n ≤ 1000000) (hix : ∀ p q x y, p < q → q < n → xs[p]? = some x → xs[q]? = some y → x.2 < y.2) :
    Calls Try.prog 35 #[.slice (some ⟨g, 0, none⟩) n cap, .func (.func 36) #[] #[]] w fun e w' => e = .returned (.tuple #[]) ∧ ∃ ys, ys.Perm xs ∧ OrdOn (ltT dueE) 0 n ys ∧ GRow base g n cap ys w' ∧ GroW g w w' := by
  have HS := Lib.hid (stable_any w base g n cap xs h hd hn hix)
  clear h hd hix
  go_enter Try.func35, Try.ntmps35
  go_wp2_with fail
  refine HS.out.mono ?_
  rintro e w2 ⟨rfl, h1⟩
  have HX := Lib.hid h1
  clear h1
  go_wp2
  go_end0
  exact ⟨rfl, HX.out⟩
end Go.Proofs.Ytpnefacignalpaa
