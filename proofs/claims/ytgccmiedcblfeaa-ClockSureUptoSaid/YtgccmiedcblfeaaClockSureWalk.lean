/- ClockSure's walk: it returns true. Conditions: the reading's bulk is at most 1048576. -/
import Derived.Test.YtgccmiedcblfeaaShow
namespace Go.Proofs.Ytgccmiedcblfeaa.clockSure
open Go.RowKit Go.Gy
set_option linter.unusedVariables false

theorem lost_le (fs : List Fault) (arm t : Int) : lost fs arm t ≤ fs.length := List.length_filter_le _ _

set_option maxHeartbeats 1000000 in
theorem walk (a0 a1 a2 : Int) (v3 : Value) (a4 : Int) (w : World) (w0 : (Lit.int .u32 a0).wf = true) (w1 : (Lit.int .i64 a1).wf = true) (w2 : (Lit.int .i64 a2).wf = true) {b3 : Nat} (f3 : SlArg encF wfF 3 24 w v3 b3) (w4 : (Lit.int .i64 a4).wf = true) (hk : b3 ≤ 1048576) :
    Calls Try.prog 5 #[.int .u32 a0, .int .i64 a1, .int .i64 a2, v3, .int .i64 a4] w fun e w' => e = .returned (.bool true) ∧ Below w.heap.size w w' := by
  obtain ⟨A, n, c, fs, rfl, hl, hnc, hcm, hre, hcb, _, hr, _⟩ := f3
  have hn : n ≤ 1048576 := by omega
  obtain ⟨s0, s1⟩ := wf_u32 w0
  obtain ⟨t, ht⟩ : ∃ t, a1 % 2001 = t := ⟨_, rfl⟩
  obtain ⟨u, hu⟩ : ∃ t, a2 % 2001 = t := ⟨_, rfl⟩
  obtain ⟨q, hq⟩ : ∃ t, a4 % 40 = t := ⟨_, rfl⟩
  have t0 : 0 ≤ t := by omega
  have t1 : t < 2001 := by omega
  have u0 : 0 ≤ u := by omega
  have u1 : u < 2001 := by omega
  have q0 : 0 ≤ q := by omega
  have q1 : q < 40 := by omega
  obtain ⟨la, hla⟩ : ∃ x : Int, x = lost fs 0 t := ⟨_, rfl⟩
  obtain ⟨lb, hlb⟩ : ∃ x : Int, x = lost fs 1 u := ⟨_, rfl⟩
  have la0 : 0 ≤ la := by omega
  have la1 : la ≤ 1048576 := by have := lost_le fs 0 t; omega
  have lb0 : 0 ≤ lb := by omega
  have lb1 : lb ≤ 1048576 := by have := lost_le fs 1 u; omega
  have Ht := Lib.hid ht
  have Hu := Lib.hid hu
  have Hq := Lib.hid hq
  have La := Lib.hid (show (a0 + (max t 0 - (lost fs 0 t : Int))) % 4294967296 = (a0 + (t - la)) % 4294967296 by rw [← hla]; congr 3; omega)
  have Lb := Lib.hid (show (a0 + (max u 0 - (lost fs 1 u : Int))) % 4294967296 = (a0 + (u - lb)) % 4294967296 by rw [← hlb]; congr 3; omega)
  clear ht hu hq hla hlb w1 w2 w4
  have e1 : diff ((a0 + t) % 4294967296) ((a0 + (t - la)) % 4294967296) = la := by unfold diff; omega
  have e2 : diff ((a0 + u) % 4294967296) ((a0 + (u - lb)) % 4294967296) = lb := by unfold diff; omega
  have e3 : diff ((a0 + (u - lb)) % 4294967296) ((a0 + (t - la)) % 4294967296) = u - lb - t + la := by unfold diff; omega
  have e4 : diff ((a0 + (t - la) + q) % 4294967296) ((a0 + t) % 4294967296) = q - la := by unfold diff; omega
  have E3 := Lib.hid e3
  have E4 := Lib.hid e4
  clear e3 e4
  have d0 : decide (5 < diff 9 3) = true := by decide
  have E1 := Lib.hid e1
  have E2 := Lib.hid e2
  clear e1 e2
  go_enter Try.func5, Try.ntmps5
  go_wp2_with fail
  refine (before_any _ _ _ _).mono ?_
  rintro e w' ⟨rfl, rfl⟩
  go_wp2_with (go_at_call 8; refine (below_any _ _ _ (by omega) (by omega)).mono ?_; rintro e w' ⟨rfl, rfl⟩; first | rw [Ht.out] | rw [Hu.out] | rw [Hq.out])
  refine (show_any _ _ _ _ _ _ _ fs hl (by omega) hr (by omega) (by omega)).mono ?_
  rintro e w1 ⟨rfl, hb1⟩
  rw [La.out]
  go_wp2_with fail
  refine (show_any _ _ _ _ _ _ _ fs hl (by omega) ((hr.below hb1).more hb1.size) (by omega) (by omega)).mono ?_
  rintro e w2 ⟨rfl, hb2⟩
  rw [Lb.out]
  have hb := hb1.trans (hb2.mono hb1.size)
  clear hb1 hb2
  by_cases c1 : q < la
  · go_wp2_with (go_at_call 10; refine (diff_any _ _ _).mono ?_; rintro e w' ⟨rfl, rfl⟩; first | rw [E1.out] | rw [E2.out])
    go_ret
    exact ⟨rfl, hb⟩
  · by_cases c2 : q < lb
    · go_wp2_with (go_at_call 10; refine (diff_any _ _ _).mono ?_; rintro e w' ⟨rfl, rfl⟩; first | rw [E1.out] | rw [E2.out])
      go_ret
      exact ⟨rfl, hb⟩
    · go_wp2_with (go_at_call 10; refine (diff_any _ _ _).mono ?_; rintro e w' ⟨rfl, rfl⟩; first | rw [E1.out] | rw [E2.out])
      refine (before_any _ _ _ _).mono ?_
      rintro e w' ⟨rfl, rfl⟩
      rw [if_pos (by omega), E3.out]
      by_cases c3 : q < u - lb - t + la
      · have c4 : t < u := by omega
        go_wp2_with (first
          | (go_at_call 15; refine (range_any _ _ _).mono ?_; rintro e w' ⟨rfl, rfl⟩; rw [if_pos (by omega)])
          | (go_at_call 10; refine (diff_any _ _ _).mono ?_; rintro e w' ⟨rfl, rfl⟩; first | rw [E1.out] | rw [E4.out]))
        go_ret
        exact ⟨ret_bool (by simp), hb⟩
      · go_wp2_with (first
          | (go_at_call 15; refine (range_any _ _ _).mono ?_; rintro e w' ⟨rfl, rfl⟩; rw [if_pos (by omega)])
          | (go_at_call 10; refine (diff_any _ _ _).mono ?_; rintro e w' ⟨rfl, rfl⟩; first | rw [E1.out] | rw [E4.out]))
        go_ret
        exact ⟨ret_bool (by simp), hb⟩
end Go.Proofs.Ytgccmiedcblfeaa.clockSure
