/- Cells: slices.Equal and slices.Clone at cells, and the model's '==' there. Conditions: those typed. -/
import Derived.Test.YtpnefacignalpaaWords
import Derived.Test.YtpnefacignalpaaRows
namespace Go.Proofs.Ytpnefacignalpaa
open Go.RowKit Go.Gy
set_option linter.unusedVariables false

abbrev Cell := Int × Int
def encC (c : Cell) : List Value := [.int .i64 c.1, .int .i64 c.2]
theorem encC_len (c : Cell) : (encC c).length = 2 := rfl

theorem eql_cell (w : World) (a b c d : Int) : (binOp .eql 88 (.agg #[.int .i64 a, .int .i64 b]) (.agg #[.int .i64 c, .int .i64 d])).run Try.prog w = .ok (.bool (a == c && b == d)) w := by
  have u3 := Try.underlying3
  have a3 := Try.isAgg3
  have z3 := Try.sizeOf3
  have hS : Try.prog.underlying 88 = some (.struct (Try.prog.fieldsOf 88)) := by kernel_rfl
  have hp : Try.prog.stoodInHeld 88 = false := by kernel_rfl
  rw [run_eql_struct, show (10000 : Nat) = 9999 + 1 from rfl, run_equalIn_agg w 9999 88 _ _ hS hp]
  simp only [Program.fieldsOf, Try.underlying88]
  go_simp
  by_cases h1 : a = c <;> by_cases h2 : b = d <;> simp [h1, h2]
theorem neq_cell (w : World) (a b c d : Int) : (binOp .neq 88 (.agg #[.int .i64 a, .int .i64 b]) (.agg #[.int .i64 c, .int .i64 d])).run Try.prog w = .ok (.bool (!(a == c && b == d))) w := by
  have u3 := Try.underlying3
  have a3 := Try.isAgg3
  have z3 := Try.sizeOf3
  have hS : Try.prog.underlying 88 = some (.struct (Try.prog.fieldsOf 88)) := by kernel_rfl
  have hp : Try.prog.stoodInHeld 88 = false := by kernel_rfl
  rw [run_neq_struct, show (10000 : Nat) = 9999 + 1 from rfl, run_equalIn_agg w 9999 88 _ _ hS hp]
  simp only [Program.fieldsOf, Try.underlying88]
  go_simp
  by_cases h1 : a = c <;> by_cases h2 : b = d <;> simp [h1, h2]
theorem guard_cell : Try.prog.eqGuardType Try.prog.depth 88 = false := by kernel_rfl

/-- the first k cells of two lists agree -/
def agree (xs ys : List Cell) (k : Nat) : Prop := xs.take k = ys.take k

set_option maxRecDepth 100000 in
set_option maxHeartbeats 1000000 in
theorem equal_cells (w : World) (A A' : Option Addr) (n m c c' B : Nat) (xs ys : List Cell) (hx : xs.length = n) (hy : ys.length = m) (hn : n ≤ 35184372088832) (hm : m ≤ 35184372088832) (hr : Rd w B 2 A n (xs.flatMap encC)) (hs : Rd w B 2 A' m (ys.flatMap encC)) :
    Calls Try.prog 37 #[.slice A n c, .slice A' m c'] w fun e w' => e = .returned (.bool (decide (xs = ys))) ∧ ∃ q, w' = w.drewN q := by
  by_cases hnm : n = m
  · subst hnm
    have HX := Lib.hid hx
    have HY := Lib.hid hy
    have hg := guard_cell
    clear hx hy hm
    go_enter Try.func37, Try.ntmps37
    go_wp2
    go_loopw [13] (fun i wr => ∃ k q : Nat, k ≤ n ∧ i = .int .i64 k ∧ agree xs ys k ∧ wr = w.drewN q) (fun i _ => n - (intOf i).toNat)
    case atStart => exact ⟨0, 0, Nat.zero_le _, rfl, rfl, rfl⟩
    case round =>
      obtain ⟨k, q, hk, rfl, hag, rfl⟩ := hrel
      have Hag := Lib.hid hag
      clear hag
      by_cases hlt : k < n
      · obtain ⟨b, o, f, rfl, hb, hf, hc⟩ := hr.elem encC_len HX.out hlt
        obtain ⟨b', o', f', rfl, hb', hf', hc'⟩ := hs.elem encC_len HY.out hlt
        obtain ⟨x, y⟩ := f
        obtain ⟨x', y'⟩ := f'
        have c0 : w.cell? ⟨b, o + k * 2, none⟩ = some (.int .i64 x) := hc 0 _ rfl
        have c1 : w.cell? ⟨b, o + k * 2 + 1, none⟩ = some (.int .i64 y) := hc 1 _ rfl
        have d0 : w.cell? ⟨b', o' + k * 2, none⟩ = some (.int .i64 x') := hc' 0 _ rfl
        have d1 : w.cell? ⟨b', o' + k * 2 + 1, none⟩ = some (.int .i64 y') := hc' 1 _ rfl
        clear hc hc'
        have Hf := Lib.hid hf
        have Hf' := Lib.hid hf'
        clear hf hf'
        have hlt' : (k : Int) < (n : Int) := by omega
        by_cases he : x = x' ∧ y = y'
        · obtain ⟨rfl, rfl⟩ := he
          have hneq := fun (w : World) => neq_cell w x y x y
          simp only [beq_self_eq_true, Bool.and_self, Bool.not_true] at hneq
          go_wp2
          go_quiet (fail)
          go_wp2
          go_roundw
          case rel => exact ⟨k + 1, _, by omega, by go_num, by have := Hag.out; unfold agree at this ⊢; rw [List.take_add_one, List.take_add_one, this, Hf.out, Hf'.out], rfl⟩
          case measure => simp [intOf]; omega
        · have hb : (x == x' && y == y') = false := by simpa using he
          have hneq := fun (w : World) => neq_cell w x y x' y'
          simp only [hb, Bool.not_false] at hneq
          clear hb
          go_wp2
          go_quiet (fail)
          go_wp2
          go_ret
          refine ⟨ret_bool ?_, q + nq, by rw [World.drewN_drewN]⟩
          symm
          rw [decide_eq_false_iff_not]
          intro e
          subst e
          rw [Hf.out] at Hf'
          have := Hf'.out
          simp at this
          exact he ⟨this.1, this.2⟩
      · obtain rfl : k = n := by omega
        go_wp2
        go_ret
        refine ⟨ret_bool ?_, _, rfl⟩
        symm
        rw [decide_eq_true_iff]
        have := Hag.out
        unfold agree at this
        rwa [List.take_of_length_le (by rw [HX.out]; omega), List.take_of_length_le (by rw [HY.out]; omega)] at this
  · have hb : ((n : Int) == (m : Int)) = false := by simp; omega
    have hd : decide (xs = ys) = false := by
      rw [decide_eq_false_iff_not]; intro e; subst e; exact hnm (hx.symm.trans hy)
    rw [hd]
    clear hx hy hr hs hd
    go_enter Try.func37, Try.ntmps37
    go_wp2
    go_ret
    exact ⟨rfl, 0, rfl⟩

theorem encC_one (xs : List Cell) : ∀ u ∈ xs.flatMap encC, u.oneCell' = true := by
  intro u hu
  obtain ⟨c, _, h⟩ := List.mem_flatMap.1 hu
  simp only [encC, List.mem_cons, List.not_mem_nil, or_false] at h
  rcases h with rfl | rfl <;> rfl
/-- a slice's cells again, in memory of the call's own -/
theorem info_cell : (Try.prog.info? 88).map (fun i => (i.zero, i.size, i.bytes)) = some (some (.agg #[.int .i64 0, .int .i64 0]), 2, 16) := by kernel_rfl
set_option maxHeartbeats 1000000 in
theorem clone_cells (w : World) (A : Option Addr) (n c : Nat) (xs : List Cell) (hA : A = none → n = 0 ∧ c = 0) (hx : xs.length = n) (hn : n ≤ 8796093022207) (hr : Rd w w.heap.size 2 A n (xs.flatMap encC)) :
    Calls Try.prog 40 #[.slice A n c] w fun e w' => ∃ v, e = .returned v ∧ w'.ownsRow w.heap.size 88 2 v n (xs.flatMap encC) ∧ Below w.heap.size w w' := by
  obtain ⟨i0, hi, hz0, hz1, hz2⟩ := info_parts info_cell
  have he := fun w => Lib.run_eql_slice_nil (P := Try.prog) w 41 88 A n c 0 0 Try.underlying41
  cases A with
  | none =>
    obtain ⟨rfl, rfl⟩ := hA rfl
    obtain rfl : xs = [] := List.eq_nil_of_length_eq_zero hx
    clear hr hA hx
    go_enter Try.func40, Try.ntmps40
    go_wp2
    go_ret
    exact ⟨_, rfl, World.ownsRow_nil _ _ _ _, Below.refl _ _⟩
  | some ad =>
    clear hA
    go_enter Try.func40, Try.ntmps40
    go_wp2_with (at_builtin; refine wpList_extend rfl (.tmp 5) (.tmp 6) 41 rfl w.heap.size 88 i0 (.agg #[.int .i64 0, .int .i64 0]) 2 16 Try.underlying41 hi hz0 hz1 hz2 rfl (by omega) _ _ _ rfl (World.ownsRow_lit w #[] 0 (Nat.le_refl _) (by omega) rfl) (some ad) n c w.heap.size (xs.flatMap encC) rfl (fun h => by cases h) (hr.alloc (Nat.le_refl _) _) (encC_one xs) (by unfold maxLen; omega) (by omega) (by simp) ?_; intro v1 w1 hown1 hb1)
    obtain ⟨A1, c1, rfl, _, _, _⟩ := own_rd hown1
    go_wp2
    go_ret
    exact ⟨_, rfl, by simpa using hown1, ((Below.refl _ _).alloc (Nat.le_refl _) _).trans hb1⟩
end Go.Proofs.Ytpnefacignalpaa
