/- clock.Show, Before, Range and the second implementation's Later: what they return. Conditions: at most 2^45 faults. -/
import Derived.Test.YtgccmiedcblfeaaLatest
namespace Go.Proofs.Ytgccmiedcblfeaa
open Go.RowKit Go.Gy
set_option linter.unusedVariables false

/-- A fault by which the clock of an arm loses a tick till a tick. -/
def drifts (arm tick : Int) (f : Fault) : Bool := decide (f.2.1 = 5 ∧ f.2.2 = arm ∧ 0 ≤ f.1 ∧ f.1 ≤ tick)
def lostTo (fs : List Fault) (k : Nat) (arm tick : Int) : Nat := ((fs.take k).filter (drifts arm tick)).length
def lost (fs : List Fault) (arm tick : Int) : Nat := (fs.filter (drifts arm tick)).length
theorem lostTo_le (fs : List Fault) (k : Nat) (arm tick : Int) : lostTo fs k arm tick ≤ k :=
  Nat.le_trans (List.length_filter_le _ _) (List.length_take_le _ _)
theorem lostTo_hit (fs : List Fault) (k : Nat) (arm tick : Int) (f : Fault) (h : fs[k]? = some f) (hd : drifts arm tick f = true) : lostTo fs (k + 1) arm tick = lostTo fs k arm tick + 1 := by
  unfold lostTo; rw [List.take_add_one, h]; simp [List.filter_append, hd]
theorem lostTo_miss (fs : List Fault) (k : Nat) (arm tick : Int) (f : Fault) (h : fs[k]? = some f) (hd : drifts arm tick f = false) : lostTo fs (k + 1) arm tick = lostTo fs k arm tick := by
  unfold lostTo; rw [List.take_add_one, h]; simp [List.filter_append, hd]

set_option maxHeartbeats 1000000 in
theorem show_any (w : World) (a arm tick : Int) (A : Option Addr) (n c : Nat) (fs : List Fault) (hl : fs.length = n) (hn : n ≤ 35184372088832) (hr : Rd w w.heap.size 3 A n (fs.flatMap encF)) (ht0 : -9223372036854775808 ≤ tick) (ht1 : tick ≤ 9223372036854775807) :
    Calls Try.prog 14 #[.int .u32 a, .int .i64 arm, .int .i64 tick, .slice A n c] w fun e w' => e = .returned (.int .u32 ((a + (max tick 0 - lost fs arm tick)) % 4294967296)) ∧ Below w.heap.size w w' := by
  have Hl := Lib.hid hl
  clear hl
  go_enter Try.func14, Try.ntmps14
  go_wp2
  go_loopw [9, 14] (fun q i wr => ∃ k : Nat, k ≤ n ∧ i = .int .i64 k ∧ q = .int .i64 (lostTo fs k arm tick) ∧ Below w.heap.size w wr) (fun _ i _ => n - (intOf i).toNat)
  case atStart => exact ⟨0, Nat.zero_le _, rfl, rfl, Below.refl _ _⟩
  case round =>
    obtain ⟨k, hk, rfl, rfl, hb⟩ := hrel
    have hle := lostTo_le fs k arm tick
    by_cases hlt : k < n
    · obtain ⟨b, o, f, rfl, hbb, hf, hc⟩ := (hr.below hb).elem encF_len Hl.out hlt
      obtain ⟨t, kd, m⟩ := f
      have c0 : wr.cell? ⟨b, o + k * 3, none⟩ = _ := hc 0 _ rfl
      have c1 := hc 1 _ rfl
      have c2 := hc 2 _ rfl
      clear hc
      have Hh := Lib.hid (lostTo_hit fs k arm tick _ hf)
      have Hm := Lib.hid (lostTo_miss fs k arm tick _ hf)
      have Hf := Lib.hid hf
      clear hf
      have hsz := hb.size
      by_cases k5 : kd = 5
      · subst k5
        by_cases km : m = arm
        · subst km
          by_cases k0 : 0 ≤ t
          · by_cases k1 : t ≤ tick
            · go_wp2
              go_roundw
              case rel => exact ⟨k + 1, by omega, by go_num, by rw [Hh.out (by simp [drifts, k0, k1])]; go_num, (hb.alloc hsz _)⟩
              case measure => simp [intOf]; omega
            · go_wp2
              go_roundw
              case rel => exact ⟨k + 1, by omega, by go_num, by rw [Hm.out (by simp [drifts, k1])], (hb.alloc hsz _)⟩
              case measure => simp [intOf]; omega
          · go_wp2
            go_roundw
            case rel => exact ⟨k + 1, by omega, by go_num, by rw [Hm.out (by simp [drifts]; omega)], (hb.alloc hsz _)⟩
            case measure => simp [intOf]; omega
        · have kb : (m == arm) = false := by simpa using km
          go_wp2
          go_roundw
          case rel => exact ⟨k + 1, by omega, by go_num, by rw [Hm.out (by simp [drifts, km])], (hb.alloc hsz _)⟩
          case measure => simp [intOf]; omega
      · have kb : (kd == 5) = false := by simpa using k5
        go_wp2
        go_roundw
        case rel => exact ⟨k + 1, by omega, by go_num, by rw [Hm.out (by simp [drifts, k5])], (hb.alloc hsz _)⟩
        case measure => simp [intOf]; omega
    · obtain rfl : k = n := by omega
      have e : lostTo fs k arm tick = lost fs arm tick := by rw [← Hl.out]; simp [lostTo, lost]
      rw [e]
      rw [e] at hle
      have He := Lib.hid e
      clear e
      by_cases hm : 0 ≤ tick
      · go_wp2_with (go_at_call 9; refine (after_any _ _ _).mono ?_; rintro e w' ⟨rfl, rfl⟩)
        go_ret
        exact ⟨ret_int (by omega), hb⟩
      · go_wp2_with (go_at_call 9; refine (after_any _ _ _).mono ?_; rintro e w' ⟨rfl, rfl⟩)
        go_ret
        exact ⟨ret_int (by omega), hb⟩

theorem before_any (w : World) (a b lost : Int) :
    Calls Try.prog 13 #[.int .u32 a, .int .u32 b, .int .i64 lost] w fun e w' => e = .returned (if 0 ≤ lost ∧ lost ≤ 1048576 then .tuple #[.bool (decide (lost < diff b a)), .int .i64 0] else .tuple #[.bool false, .int .i64 1]) ∧ w = w' := by
  by_cases h0 : lost < 0
  · rw [if_neg (by omega)]
    go_enter Try.func13, Try.ntmps13
    go_wp2
    go_ret2
    exact ⟨rfl, rfl⟩
  · by_cases h1 : 1048576 < lost
    · rw [if_neg (by omega)]
      go_enter Try.func13, Try.ntmps13
      go_wp2
      go_ret2
      exact ⟨rfl, rfl⟩
    · rw [if_pos (by omega)]
      go_enter Try.func13, Try.ntmps13
      go_wp2_with (go_at_call 10; refine (diff_any _ _ _).mono ?_; rintro e w' ⟨rfl, rfl⟩)
      go_ret2
      exact ⟨rfl, rfl⟩
theorem range_any (w : World) (a lost : Int) :
    Calls Try.prog 15 #[.int .u32 a, .int .i64 lost] w fun e w' => e = .returned (if 0 ≤ lost ∧ lost ≤ 1048576 then .tuple #[.int .u32 a, .int .u32 ((a + lost) % 4294967296), .int .i64 0] else .tuple #[.int .u32 0, .int .u32 0, .int .i64 1]) ∧ w = w' := by
  by_cases h0 : lost < 0
  · rw [if_neg (by omega)]
    go_enter Try.func15, Try.ntmps15
    go_wp2
    go_ret3
    exact ⟨rfl, rfl⟩
  · by_cases h1 : 1048576 < lost
    · rw [if_neg (by omega)]
      go_enter Try.func15, Try.ntmps15
      go_wp2
      go_ret3
      exact ⟨rfl, rfl⟩
    · rw [if_pos (by omega)]
      go_enter Try.func15, Try.ntmps15
      go_wp2_with (go_at_call 9; refine (after_any _ _ _).mono ?_; rintro e w' ⟨rfl, rfl⟩)
      go_ret3
      exact ⟨rfl, rfl⟩
theorem later_any (w : World) (a b : Int) (ha0 : 0 ≤ a) (ha1 : a < 4294967296) (hb0 : 0 ≤ b) (hb1 : b < 4294967296) :
    Calls Try.prog 16 #[.int .u32 a, .int .u32 b] w fun e w' => e = .returned (.int .i64 (diff a b)) ∧ w = w' := by
  have e0 : (a - b).tmod 4294967296 = a - b := by
    rw [Int.tmod_eq_emod]; split <;> omega
  have E0 := Lib.hid e0
  clear e0
  go_enter Try.func16, Try.ntmps16
  go_wp2
  rw [E0.out]
  go_loop [5] (fun v => ∃ x : Int, v = .int .i64 x ∧ (x = a - b ∨ x = a - b - 4294967296 ∧ 2147483648 ≤ a - b)) (fun v => (intOf v + 8589934592).toNat)
  case atStart => exact ⟨_, rfl, .inl rfl⟩
  case round =>
    obtain ⟨x, rfl, hx⟩ := hrel
    have x0 : -4294967296 < x := by omega
    have x1 : x < 4294967296 := by omega
    have Hx := Lib.hid hx
    clear hx
    by_cases hc : 2147483648 ≤ x
    · go_wp2
      go_round
      case rel => exact ⟨_, rfl, by have := Hx.out; omega⟩
      case measure => simp [intOf]; omega
    · go_wp2
      go_loop [5] (fun v => ∃ y : Int, v = .int .i64 y ∧ (y = x ∨ y = x + 4294967296 ∧ x < -2147483648)) (fun v => (8589934592 - intOf v).toNat)
      case atStart => exact ⟨_, rfl, .inl rfl⟩
      case round =>
        obtain ⟨y, rfl, hy⟩ := hrel
        have y0 : -4294967296 < y := by omega
        have y1 : y < 4294967296 := by omega
        have Hy := Lib.hid hy
        clear hy
        by_cases hd : y < -2147483648
        · go_wp2
          go_round
          case rel => exact ⟨_, rfl, by have := Hy.out; omega⟩
          case measure => simp [intOf]; omega
        · go_wp2
          go_ret
          refine ⟨ret_int ?_, rfl⟩
          have h1 := Hx.out
          have h2 := Hy.out
          show y = diff a b
          unfold diff
          omega
end Go.Proofs.Ytgccmiedcblfeaa
