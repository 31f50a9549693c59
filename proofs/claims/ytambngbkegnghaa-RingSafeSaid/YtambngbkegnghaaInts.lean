/- Slices of integers: slices.Clone, Equal, Index, Contains at integers. Conditions: those typed. -/
import Derived.Test.YtambngbkegnghaaIntsBase
namespace Go.Proofs.Ytambngbkegnghaa
open Go.RowKit Go.Gy
set_option linter.unusedVariables false

set_option maxRecDepth 100000 in
set_option maxHeartbeats 1000000 in
theorem clone_ints (w : World) (v : Value) (xs : List Int) (hx : SlI w w.heap.size v xs) (hb : xs.length ≤ 8796093022208) :
    Calls Try.prog 57 #[v] w fun e w' => ∃ v', e = .returned v' ∧ w'.ownsRow w.heap.size 3 1 v' xs.length (xs.map iv) ∧ Below w.heap.size w w' := by
  obtain ⟨i0, hi, hz0, hz1, hz2⟩ := info_parts info_int
  obtain ⟨A, n, c, rfl, hxl, hnc, hA, hr⟩ := hx
  rw [hxl] at hb ⊢
  clear hxl
  have he := fun w => Lib.run_eql_slice_nil (P := Try.prog) w 22 3 A n c 0 0 Try.underlying22
  cases A with
  | none =>
    have hc := hA rfl
    subst hc
    obtain rfl : n = 0 := by omega
    have hx0 : xs = [] := List.eq_nil_of_length_eq_zero (by simpa using hr.1)
    subst hx0
    clear hr hA hnc
    go_enter Try.func57, Try.ntmps57
    go_wp2
    go_ret
    exact ⟨_, rfl, World.ownsRow_nil _ _ _ _, Below.refl _ _⟩
  | some ad =>
    clear hA
    go_enter Try.func57, Try.ntmps57
    go_wp2_with (at_builtin; refine wpList_extend rfl (.tmp 5) (.tmp 6) 22 rfl w.heap.size 3 i0 (.int .i64 0) 1 8 Try.underlying22 hi hz0 hz1 hz2 rfl (by omega) _ _ _ rfl (World.ownsRow_lit w #[] 0 (Nat.le_refl _) (by omega) rfl) (some ad) n c w.heap.size (xs.map iv) rfl (fun h => by cases h) (hr.alloc (Nat.le_refl _) _) (iv_one xs) (by unfold maxLen; omega) (by omega) (by simp) ?_; intro v1 w1 hown1 hb1)
    obtain ⟨A1, c1, rfl, _, _, _⟩ := own_rd hown1
    go_wp2
    go_ret
    exact ⟨_, rfl, by simpa using hown1, ((Below.refl _ _).alloc (Nat.le_refl _) _).trans hb1⟩

set_option maxRecDepth 100000 in
set_option maxHeartbeats 2000000 in
theorem equal_ints (w : World) (v v' : Value) (B : Nat) (xs ys : List Int) (hx : SlI w B v xs) (hy : SlI w B v' ys) (hbx : xs.length ≤ 140737488355328) (hby : ys.length ≤ 140737488355328) :
    Calls Try.prog 29 #[v, v'] w fun e w' => e = .returned (.bool (decide (xs = ys))) ∧ ∃ q, w' = w.drewN q := by
  obtain ⟨A, n, c, rfl, hxl, _, _, hr⟩ := hx
  obtain ⟨A', m, c', rfl, hyl, _, _, hs⟩ := hy
  rw [hxl] at hbx
  rw [hyl] at hby
  by_cases hnm : n = m
  · subst hnm
    have HX := Lib.hid hxl
    have HY := Lib.hid hyl
    clear hxl hyl hby
    go_enter Try.func29, Try.ntmps29
    go_wp2
    go_loopw [13] (fun i wr => ∃ k q : Nat, k ≤ n ∧ i = .int .i64 k ∧ Hid (xs.take k = ys.take k) ∧ wr = w.drewN q) (fun i _ => n - (intOf i).toNat)
    case atStart => exact ⟨0, 0, Nat.zero_le _, rfl, rfl, rfl⟩
    case round =>
      obtain ⟨k, q, hk, rfl, Hag, rfl⟩ := hrel
      by_cases hlt : k < n
      · obtain ⟨b, o, x, rfl, hb, hf, c0⟩ := hr.one hlt
        obtain ⟨b', o', y, rfl, hb', hf', d0⟩ := hs.one hlt
        have Hf := Lib.hid hf
        have Hf' := Lib.hid hf'
        clear hf hf'
        have hlt' : (k : Int) < (n : Int) := by omega
        by_cases he : x = y
        · subst he
          go_wp2
          go_quiet (fail)
          go_wp2
          go_roundw
          case rel => exact ⟨k + 1, _, by omega, by go_num, by have := Hag.out; show xs.take (k + 1) = ys.take (k + 1); rw [List.take_add_one, List.take_add_one, this, Hf.out, Hf'.out], rfl⟩
          case measure => simp [intOf]; omega
        · have hneq : (x != y) = true := by simpa using he
          go_wp2
          go_quiet (fail)
          go_wp2
          go_ret
          refine ⟨ret_bool ?_, q + nq, by rw [World.drewN_drewN]⟩
          symm
          rw [decide_eq_false_iff_not]
          intro e
          subst e
          rw [Hf.out] at Hf'
          have := Hf'.out
          simp at this
          exact he this
      · obtain rfl : k = n := by omega
        go_wp2
        go_ret
        refine ⟨ret_bool ?_, _, rfl⟩
        symm
        rw [decide_eq_true_iff]
        have := Hag.out
        rwa [List.take_of_length_le (by rw [HX.out]; omega), List.take_of_length_le (by rw [HY.out]; omega)] at this
  · have hb : ((n : Int) == (m : Int)) = false := by simp; omega
    have hd : decide (xs = ys) = false := by
      rw [decide_eq_false_iff_not]; intro e; subst e; exact hnm (hxl.symm.trans hyl)
    rw [hd]
    clear hxl hyl hr hs hd
    go_enter Try.func29, Try.ntmps29
    go_wp2
    go_ret
    exact ⟨rfl, 0, rfl⟩

def IdxPostI (xs : List Int) (x : Int) (w : World) (e : Ending) (w' : World) : Prop := ∃ r : Int, e = .returned (.int .i64 r) ∧ (0 ≤ r ↔ x ∈ xs) ∧ w = w'
set_option maxRecDepth 100000 in
set_option maxHeartbeats 2000000 in
theorem index_ints (w : World) (v : Value) (B : Nat) (xs : List Int) (x : Int) (hx : SlI w B v xs) (hb : xs.length ≤ 140737488355328) :
    Calls Try.prog 53 #[v, .int .i64 x] w (IdxPostI xs x w) := by
  obtain ⟨A, n, c, rfl, hxl, _, _, hr⟩ := hx
  rw [hxl] at hb
  have HX := Lib.hid hxl
  clear hxl
  go_enter Try.func53, Try.ntmps53
  go_wp2
  go_loop [8] (fun i => ∃ k : Nat, k ≤ n ∧ i = .int .i64 k ∧ Hid (x ∉ xs.take k)) (fun i => n - (intOf i).toNat)
  case atStart => exact ⟨0, Nat.zero_le _, rfl, Lib.hid (by simp)⟩
  case round =>
    obtain ⟨k, hk, rfl, Hno⟩ := hrel
    by_cases hlt : k < n
    · obtain ⟨b, o, y, rfl, hb', hf, c0⟩ := hr.one hlt
      have Hf := Lib.hid hf
      have hlt' : (k : Int) < (n : Int) := by omega
      clear hf
      by_cases he : x = y
      · subst he
        go_wp2
        go_ret
        exact ⟨k, rfl, ⟨fun _ => List.mem_of_getElem? Hf.out, fun _ => by omega⟩, rfl⟩
      · have hne : (x == y) = false := by simpa using he
        have He := Lib.hid he
        clear he
        go_wp2
        go_round
        case rel => exact ⟨k + 1, by omega, by go_num, Lib.hid (by rw [List.take_add_one, Hf.out]; simp only [Option.toList_some, List.mem_append, List.mem_singleton, not_or]; exact ⟨Hno.out, He.out⟩)⟩
        case measure => simp [intOf]; omega
    · obtain rfl : k = n := by omega
      go_wp2
      go_ret
      have := Hno.out
      rw [List.take_of_length_le (by rw [HX.out]; omega)] at this
      exact ⟨-1, rfl, ⟨fun h => by omega, fun h => absurd h this⟩, rfl⟩
theorem contains_ints (w : World) (v : Value) (B : Nat) (xs : List Int) (x : Int) (hx : SlI w B v xs) (hb : xs.length ≤ 140737488355328) :
    Calls Try.prog 24 #[v, .int .i64 x] w fun e w' => e = .returned (.bool (decide (x ∈ xs))) ∧ w = w' := by
  have HI := Lib.hid (index_ints w v B xs x hx hb)
  obtain ⟨A, n, c, rfl, _⟩ := hx
  go_enter Try.func24, Try.ntmps24
  go_wp2_with fail
  refine HI.out.mono ?_
  rintro e w' ⟨r, rfl, hr, rfl⟩
  have e1 := Lib.hid (show decide (x ∈ xs) = decide (0 ≤ r) by by_cases h : x ∈ xs <;> simp [h, hr])
  clear hr
  go_wp2
  go_ret
  exact ⟨ret_bool e1.out.symm, rfl⟩
end Go.Proofs.Ytambngbkegnghaa
