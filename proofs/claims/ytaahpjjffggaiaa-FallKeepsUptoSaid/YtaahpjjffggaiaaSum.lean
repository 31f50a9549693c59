/- msg.Sum is the CRC-32. Conditions: at most 2^45 bytes. -/
import Derived.Test.YtaahpjjffggaiaaCrc
import Derived.Test.YtaahpjjffggaiaaRows
namespace Go.Proofs.Ytaahpjjffggaiaa
open Go.RowKit Go.Gy
set_option linter.unusedVariables false

/-- bytes as values -/
abbrev bv (x : Nat) : Value := .int .u8 (x : Int)
theorem bv_at {w : World} {B n i : Nat} {A : Option Addr} {xs : List Nat} (h : Rd w B 1 A n (xs.map bv)) (hk : i < n) :
    ∃ b o, ∃ z : Nat, A = some ⟨b, o, none⟩ ∧ b < B ∧ xs[i]? = some z ∧ w.cell? ⟨b, o + i, none⟩ = some (.int .u8 z) := by
  obtain ⟨b, o, u, e, hb, hu, hc⟩ := h.at_ hk
  rw [List.getElem?_map] at hu
  cases hx : xs[i]? with
  | none => simp [hx] at hu
  | some a =>
    rw [hx] at hu
    simp only [Option.map_some, Option.some.injEq] at hu
    subst hu
    exact ⟨b, o, a, e, hb, rfl, hc⟩
theorem u32_step (s : Nat) (hs : s < 4294967296) : bits .xor .u32 ((s : Int) / 2) (3988292384 * bits .and .u32 (s : Int) 1 % 4294967296) = (cstep s : Nat) := by
  have h1 : bits .and .u32 (s : Int) 1 = ((s % 2 : Nat) : Int) := by
    have := u32_and_nat s 1 hs (by omega)
    rw [nat_mask1] at this
    exact this
  rw [h1]
  have h2 : (s : Int) / 2 = ((s / 2 : Nat) : Int) := by omega
  have h3 : (3988292384 * ((s % 2 : Nat) : Int)) % 4294967296 = ((poly * (s % 2) : Nat) : Int) := by
    unfold poly
    rcases Nat.mod_two_eq_zero_or_one s with h | h <;> rw [h] <;> rfl
  rw [h2, h3]
  exact u32_xor_nat _ _ (by omega) (by have := poly_lt; rcases Nat.mod_two_eq_zero_or_one s with h | h <;> rw [h] <;> omega)

set_option maxHeartbeats 400000 in
theorem sum_any (w : World) (A : Option Addr) (n c : Nat) (B : Nat) (l : List Nat) (hl : l.length = n) (hn : n ≤ 140737488355328) (hr : Rd w B 1 A n (l.map bv)) (h8 : ∀ x ∈ l, x < 256) :
    Calls Try.prog 54 #[.slice A n c] w fun e w' => e = .returned (.int .u32 (crc l : Nat)) ∧ w = w' := by
  have Hl := Lib.hid hl
  have H8 := Lib.hid h8
  clear hl h8
  go_enter Try.func54, Try.ntmps54
  go_wp2
  go_loop [3, 8] (fun s i => ∃ k x : Nat, k ≤ n ∧ i = .int .i64 k ∧ s = .int .u32 x ∧ x = cfold 4294967295 (l.take k)) (fun _ i => n - (intOf i).toNat)
  case atStart => exact ⟨0, 4294967295, Nat.zero_le _, rfl, rfl, rfl⟩
  case round =>
    obtain ⟨k, x, hk, rfl, rfl, hx⟩ := hrel
    have x1 : x < 4294967296 := by rw [hx]; exact cfold_lt _ (fun y hy => H8.out y (List.mem_of_mem_take hy)) (by omega)
    have Hx := Lib.hid hx
    clear hx
    by_cases hlt : k < n
    · obtain ⟨b, o, z, rfl, hb, hz, hc⟩ := bv_at hr hlt
      have z1 := H8.out z (List.mem_of_getElem? hz)
      have Hs := Lib.hid (show cfold 4294967295 (l.take (k + 1)) = csteps 8 (x ^^^ z) by rw [List.take_add_one, hz, Hx.out]; exact cfold_snoc _ _ _)
      have Hxz := Lib.hid (show bits .xor .u32 (x : Int) (z : Int) = ((x ^^^ z : Nat) : Int) from u32_xor_nat x z x1 (by omega))
      have Hlt := Lib.hid (show x ^^^ z < 4294967296 from xor_lt x1 (by omega))
      clear hz
      go_wp2
      go_loop [3, 16] (fun s i => ∃ j y : Nat, j ≤ 8 ∧ i = .int .i64 j ∧ s = .int .u32 y ∧ y = csteps j (x ^^^ z)) (fun _ i => 8 - (intOf i).toNat)
      case atStart => exact ⟨0, x ^^^ z, by omega, rfl, by rw [Hxz.out], rfl⟩
      case round =>
        obtain ⟨j, y, hj, rfl, rfl, hy⟩ := hrel
        have y1 : y < 4294967296 := by rw [hy]; exact csteps_lt j Hlt.out
        have Hy := Lib.hid hy
        clear hy
        by_cases hjt : j < 8
        · have Hst := Lib.hid (u32_step y y1)
          go_wp2
          go_round
          case rel => exact ⟨j + 1, cstep y, by omega, by go_num, by rw [Hst.out], by rw [Hy.out]; rfl⟩
          case measure => simp [intOf]; omega
        · obtain rfl : j = 8 := by omega
          go_wp2
          go_round
          case rel => exact ⟨k + 1, y, by omega, by go_num, rfl, by rw [Hs.out]; exact Hy.out⟩
          case measure => simp [intOf]; omega
    · obtain rfl : k = n := by omega
      go_wp2
      go_ret
      refine ⟨ret_int ?_, rfl⟩
      have h1 := u32_xor_nat 4294967295 x (by omega) x1
      show bits .xor .u32 IntKind.u32.max (x : Int) = _
      have h2 : IntKind.u32.max = ((4294967295 : Nat) : Int) := by decide
      rw [h2, h1, Nat.xor_comm]
      have h3 := Hx.out
      rw [List.take_of_length_le (by rw [Hl.out]; omega)] at h3
      rw [h3]; rfl
end Go.Proofs.Ytaahpjjffggaiaa
