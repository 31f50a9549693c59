/- Contracts of the clock's functions, for the clock laws: no condition but those typed. -/
import Derived.Test.YtgccmiedcblfeaaRows
import Derived.WalkKit
import Derived.ProofKit
import Derived.OpenShut
import Derived.Handy
import Derived.Lib.Hide
namespace Go.Proofs.Ytgccmiedcblfeaa
open Go.RowKit

theorem ret_int {k : IntKind} {a b : Int} (h : a = b) : Ending.returned (.int k a) = .returned (.int k b) := by rw [h]

theorem tmod_wrap (x n : Int) (h0 : 0 < n) (hx : x.tmod n < 0) : x.tmod n + n = x % n := by
  have h := Int.tmod_def x n
  rw [Int.tmod_eq_emod] at hx ⊢
  split at hx
  · exfalso; have := Int.emod_nonneg x (show n ≠ 0 by omega); omega
  · rename_i h2; rw [if_neg h2]; omega
theorem tmod_pos (x n : Int) (h0 : 0 < n) (hx : 0 ≤ x.tmod n) : x.tmod n = x % n := by
  rw [Int.tmod_eq_emod] at hx ⊢
  split at hx
  · rename_i h2; rw [if_pos h2]; omega
  · exfalso
    have := Int.emod_lt_of_pos x h0
    omega

theorem below_any (x n : Int) (w : World) (h0 : 0 < n) (h1 : n ≤ 4294967296) :
    Calls Try.prog 8 #[.int .i64 x, .int .i64 n] w fun e w' => e = .returned (.int .i64 (x % n)) ∧ w = w' := by
  have b0 : -n ≤ x.tmod n := by
    by_cases h : x.tmod n < 0
    · have := tmod_wrap x n h0 h; have := Int.emod_nonneg x (show n ≠ 0 by omega); omega
    · omega
  go_enter Try.func8, Try.ntmps8
  go_wp2
  all_goals go_ret
  · exact ⟨ret_int (tmod_wrap x n h0 ‹_›), rfl⟩
  · exact ⟨ret_int (tmod_pos x n h0 ‹_›), rfl⟩

def diff (a b : Int) : Int := (a - b + 2147483648) % 4294967296 - 2147483648
theorem diff_le (a b : Int) : -2147483648 ≤ diff a b ∧ diff a b < 2147483648 := by unfold diff; omega

theorem diff_any (a b : Int) (w : World) :
    Calls Try.prog 10 #[.int .u32 a, .int .u32 b] w fun e w' => e = .returned (.int .i64 (diff a b)) ∧ w = w' := by
  go_enter Try.func10, Try.ntmps10
  go_wp2
  go_ret
  exact ⟨ret_int (by simp only [wrap64, wrap32, diff]; omega), rfl⟩

theorem after_any (a n : Int) (w : World) :
    Calls Try.prog 9 #[.int .u32 a, .int .i64 n] w fun e w' => e = .returned (.int .u32 ((a + n) % 4294967296)) ∧ w = w' := by
  go_enter Try.func9, Try.ntmps9
  go_wp2
  go_ret
  exact ⟨ret_int (by omega), rfl⟩
theorem middle_any (a b : Int) (w : World) :
    Calls Try.prog 11 #[.int .u32 a, .int .u32 b] w fun e w' => e = .returned (.int .u32 ((a + (diff b a).tdiv 2) % 4294967296)) ∧ w = w' := by
  have := diff_le b a
  go_enter Try.func11, Try.ntmps11
  go_wp2_with (first | (go_at_call 10; refine (diff_any _ _ _).mono ?_; rintro e w' ⟨rfl, rfl⟩) | (go_at_call 9; refine (after_any _ _ _).mono ?_; rintro e w' ⟨rfl, rfl⟩))
  go_ret
  exact ⟨ret_int rfl, rfl⟩
theorem counts_any (w : World) : Calls Try.prog 7 #[] w fun e w' => e = .returned (.bool true) ∧ w = w' := by
  go_enter Try.func7, Try.ntmps7
  go_wp2
  go_ret
  exact ⟨rfl, rfl⟩
end Go.Proofs.Ytgccmiedcblfeaa
