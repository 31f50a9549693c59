/- slices.Index and slices.Contains at cells. Conditions: those typed. -/
import Derived.Test.YtaahpjjffggaiaaCells
import Derived.Test.YtaahpjjffggaiaaRows
namespace Go.Proofs.Ytaahpjjffggaiaa
open Go.RowKit Go.Gy
set_option linter.unusedVariables false
def IdxC (xs : List Cell) (c : Cell) (w : World) (e : Ending) (w' : World) : Prop := ∃ (r : Int) (k : Nat), e = .returned (.int .i64 r) ∧ (0 ≤ r ↔ c ∈ xs) ∧ w' = (w.alloc (.cells #[.int .i64 c.1, .int .i64 c.2] 24)).drewN k
set_option maxRecDepth 100000 in
set_option maxHeartbeats 2000000 in
theorem index_cells (w : World) (A : Option Addr) (n cap B : Nat) (xs : List Cell) (p q : Int) (hx : xs.length = n) (hn : n ≤ 35184372088832) (hr : Rd w B 2 A n (xs.flatMap encC)) (hB : B ≤ w.heap.size) :
    Calls Try.prog 84 #[.slice A n cap, .agg #[.int .i64 p, .int .i64 q]] w (IdxC xs (p, q) w) := by
  have HX := Lib.hid hx
  have hg := guard_cell
  have hbox := Blk.new w 24 #[.int .i64 p, .int .i64 q]
  have hr1 := (hr.alloc hB (.cells #[.int .i64 p, .int .i64 q] 24))
  obtain ⟨w1, hw1⟩ : ∃ w1, w1 = w.alloc (.cells #[.int .i64 p, .int .i64 q] 24) := ⟨_, rfl⟩
  have Hw1 := Lib.hid hw1
  rw [← hw1] at hbox hr1
  have b0 : w1.cell? ⟨w.heap.size, 0, none⟩ = some (.int .i64 p) := hbox.cell 0 _ rfl
  have b1 : w1.cell? ⟨w.heap.size, 1, none⟩ = some (.int .i64 q) := hbox.cell 1 _ rfl
  clear hx hr hbox
  go_enter Try.func84, Try.ntmps84
  go_wp2
  rw [← hw1]
  clear hw1
  go_loopw [8] (fun i wr => ∃ k d : Nat, k ≤ n ∧ i = .int .i64 (k : Int) ∧ Hid ((p, q) ∉ xs.take k) ∧ wr = w1.drewN d) (fun i _ => n - (intOf i).toNat)
  case atStart => exact ⟨0, 0, Nat.zero_le _, rfl, Lib.hid (by simp), rfl⟩
  case round =>
    obtain ⟨k, d, hk, rfl, Hno, rfl⟩ := hrel
    by_cases hlt : k < n
    · obtain ⟨b, o, f, rfl, hb, hf, hc⟩ := hr1.elem encC_len HX.out hlt
      obtain ⟨x, y⟩ := f
      have c0 : w1.cell? ⟨b, o + k * 2, none⟩ = some (.int .i64 x) := hc 0 _ rfl
      have c1 : w1.cell? ⟨b, o + k * 2 + 1, none⟩ = some (.int .i64 y) := hc 1 _ rfl
      have Hf := Lib.hid hf
      have hlt' : (k : Int) < (n : Int) := by omega
      clear hc hf
      by_cases he : p = x ∧ q = y
      · obtain ⟨rfl, rfl⟩ := he
        have hneq := fun (w : World) => eql_cell w p q p q
        simp only [beq_self_eq_true, Bool.and_self] at hneq
        go_wp2
        go_quiet (fail)
        go_wp2
        go_ret
        exact ⟨k, d + nq, rfl, ⟨fun _ => List.mem_of_getElem? Hf.out, fun _ => by omega⟩, by rw [← Hw1.out, World.drewN_drewN]⟩
      · have hb' : (p == x && q == y) = false := by simpa using he
        have hneq := fun (w : World) => eql_cell w p q x y
        simp only [hb'] at hneq
        have He := Lib.hid he
        clear hb' he
        go_wp2
        go_quiet (fail)
        go_wp2
        go_roundw
        case rel => exact ⟨k + 1, d + nq, by omega, by go_num, Lib.hid (by
          rw [List.take_add_one, Hf.out]
          simp only [Option.toList_some, List.mem_append, List.mem_singleton, not_or, Prod.mk.injEq]
          exact ⟨Hno.out, He.out⟩), rfl⟩
        case measure => simp [intOf]; omega
    · obtain rfl : k = n := by omega
      have hno := Hno.out
      rw [List.take_of_length_le (by rw [HX.out]; omega)] at hno
      have Hno2 := Lib.hid hno
      clear hno
      go_wp2
      go_ret
      exact ⟨-1, d, rfl, ⟨fun h => by omega, fun h => absurd h Hno2.out⟩, by rw [← Hw1.out]⟩
set_option maxRecDepth 100000 in
theorem contains_cells (w : World) (A : Option Addr) (n cap B : Nat) (xs : List Cell) (p q : Int) (hx : xs.length = n) (hn : n ≤ 35184372088832) (hr : Rd w B 2 A n (xs.flatMap encC)) (hB : B ≤ w.heap.size) :
    Calls Try.prog 68 #[.slice A n cap, .agg #[.int .i64 p, .int .i64 q]] w fun e w' => e = .returned (.bool (decide ((p, q) ∈ xs))) ∧ Below w.heap.size w w' := by
  have HI := Lib.hid (index_cells (w.alloc (.cells #[.int .i64 p, .int .i64 q] 24)) A n cap B xs p q hx hn (hr.alloc hB _) (by rw [World.size_alloc]; omega))
  clear hx hr hn
  go_enter Try.func68, Try.ntmps68
  go_wp2_with fail
  refine HI.out.mono ?_
  rintro e w' ⟨r, k, rfl, hrr, rfl⟩
  have e1 := Lib.hid (show decide ((p, q) ∈ xs) = decide (0 ≤ r) by by_cases h : (p, q) ∈ xs <;> simp [h, hrr])
  have Hb := Lib.hid (show Below w.heap.size w (((w.alloc (.cells #[.int .i64 p, .int .i64 q] 24)).alloc (.cells #[.int .i64 p, .int .i64 q] 24)).drewN k) from below_drewN (((Below.refl _ _).alloc (Nat.le_refl _) _).alloc (by simp) _) k)
  clear hrr
  go_wp2
  go_ret
  exact ⟨ret_bool e1.out.symm, Hb.out⟩
end Go.Proofs.Ytaahpjjffggaiaa
