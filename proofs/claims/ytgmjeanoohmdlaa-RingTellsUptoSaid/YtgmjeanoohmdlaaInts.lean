/- Slices of integers: slices.Clone, Equal, Index, Contains at integers. Conditions: those typed. -/
import Derived.Test.YtgmjeanoohmdlaaWords
import Derived.Test.YtgmjeanoohmdlaaRows
import Derived.Lib.SliceRun
namespace Go.Proofs.Ytgmjeanoohmdlaa
open Go.RowKit Go.Gy
set_option linter.unusedVariables false

abbrev iv (x : Int) : Value := .int .i64 x
/-- The value v reads as the integers r, below block B; several; a slice of them. -/
def SlI (w : World) (B : Nat) (v : Value) (r : List Int) : Prop := ∃ A n c, v = .slice A n c ∧ r.length = n ∧ n ≤ c ∧ (A = none → c = 0) ∧ Rd w B 1 A n (r.map iv)
theorem SlI.below {w w' : World} {B : Nat} {v : Value} {r : List Int} (h : SlI w B v r) (hb : Below B w w') : SlI w' B v r := by
  obtain ⟨A, n, c, h1, h2, h3, h4, h5⟩ := h
  exact ⟨A, n, c, h1, h2, h3, h4, h5.below hb⟩
theorem SlI.more {w : World} {B B' : Nat} {v : Value} {r : List Int} (h : SlI w B v r) (hB : B ≤ B') : SlI w B' v r := by
  obtain ⟨A, n, c, h1, h2, h3, h4, h5⟩ := h
  exact ⟨A, n, c, h1, h2, h3, h4, h5.more hB⟩
theorem SlI.own {w : World} {base n : Nat} {v : Value} {r : List Int} (h : w.ownsRow base 3 1 v n (r.map iv)) : SlI w w.heap.size v r := by
  have hl := h.1
  obtain ⟨A, c, rfl, h1, _, h2⟩ := own_rd h
  exact ⟨A, n, c, rfl, by simpa using hl, h1, fun hA => (own_none h hA).2, h2⟩
def SlIs (w : World) (B : Nat) (vs : List Value) (rs : List (List Int)) : Prop := vs.length = rs.length ∧ ∀ (i : Nat) (v : Value) (r : List Int), vs[i]? = some v → rs[i]? = some r → SlI w B v r
theorem SlIs.below {w w' : World} {B : Nat} {vs : List Value} {rs : List (List Int)} (h : SlIs w B vs rs) (hb : Below B w w') : SlIs w' B vs rs := ⟨h.1, fun i v r h1 h2 => (h.2 i v r h1 h2).below hb⟩
theorem SlIs.more {w : World} {B B' : Nat} {vs : List Value} {rs : List (List Int)} (h : SlIs w B vs rs) (hB : B ≤ B') : SlIs w B' vs rs := ⟨h.1, fun i v r h1 h2 => (h.2 i v r h1 h2).more hB⟩
def RowsI (w : World) (B : Nat) (v : Value) (rs : List (List Int)) : Prop := ∃ A n c vs, v = .slice A n c ∧ rs.length = n ∧ n ≤ c ∧ (A = none → c = 0) ∧ Rd w B 1 A n vs ∧ SlIs w B vs rs
theorem RowsI.below {w w' : World} {B : Nat} {v : Value} {rs : List (List Int)} (h : RowsI w B v rs) (hb : Below B w w') : RowsI w' B v rs := by
  obtain ⟨A, n, c, vs, h1, h2, h3, h4, h5, h6⟩ := h
  exact ⟨A, n, c, vs, h1, h2, h3, h4, h5.below hb, h6.below hb⟩
theorem RowsI.more {w : World} {B B' : Nat} {v : Value} {rs : List (List Int)} (h : RowsI w B v rs) (hB : B ≤ B') : RowsI w B' v rs := by
  obtain ⟨A, n, c, vs, h1, h2, h3, h4, h5, h6⟩ := h
  exact ⟨A, n, c, vs, h1, h2, h3, h4, h5.more hB, h6.more hB⟩
theorem iv_one (r : List Int) : ∀ u ∈ r.map iv, u.oneCell' = true := by
  intro u hu
  obtain ⟨x, _, rfl⟩ := List.mem_map.1 hu
  rfl
theorem info_int : (Try.prog.info? 3).map (fun i => (i.zero, i.size, i.bytes)) = some (some (.int .i64 0), 1, 8) := by kernel_rfl

set_option maxRecDepth 100000 in
set_option maxHeartbeats 1000000 in
theorem clone_ints (w : World) (v : Value) (xs : List Int) (hx : SlI w w.heap.size v xs) (hb : xs.length ≤ 8796093022208) :
    Calls Try.prog 27 #[v] w fun e w' => ∃ v', e = .returned v' ∧ w'.ownsRow w.heap.size 3 1 v' xs.length (xs.map iv) ∧ Below w.heap.size w w' := by
  obtain ⟨i0, hi, hz0, hz1, hz2⟩ := info_parts info_int
  obtain ⟨A, n, c, rfl, hxl, hnc, hA, hr⟩ := hx
  rw [hxl] at hb ⊢
  clear hxl
  have he := fun w => Lib.run_eql_slice_nil (P := Try.prog) w 22 3 A n c 0 0 Try.underlying22
  cases A with
  | none =>
    have hc := hA rfl
    subst hc
    obtain rfl : n = 0 := by omega
    have hx0 : xs = [] := List.eq_nil_of_length_eq_zero (by simpa using hr.1)
    subst hx0
    clear hr hA hnc
    go_enter Try.func27, Try.ntmps27
    go_wp2
    go_ret
    exact ⟨_, rfl, World.ownsRow_nil _ _ _ _, Below.refl _ _⟩
  | some ad =>
    clear hA
    go_enter Try.func27, Try.ntmps27
    go_wp2_with (at_builtin; refine wpList_extend rfl (.tmp 5) (.tmp 6) 22 rfl w.heap.size 3 i0 (.int .i64 0) 1 8 Try.underlying22 hi hz0 hz1 hz2 rfl (by omega) _ _ _ rfl (World.ownsRow_lit w #[] 0 (Nat.le_refl _) (by omega) rfl) (some ad) n c w.heap.size (xs.map iv) rfl (fun h => by cases h) (hr.alloc (Nat.le_refl _) _) (iv_one xs) (by unfold maxLen; omega) (by omega) (by simp) ?_; intro v1 w1 hown1 hb1)
    obtain ⟨A1, c1, rfl, _, _, _⟩ := own_rd hown1
    go_wp2
    go_ret
    exact ⟨_, rfl, by simpa using hown1, ((Below.refl _ _).alloc (Nat.le_refl _) _).trans hb1⟩

set_option maxRecDepth 100000 in
set_option maxHeartbeats 2000000 in
theorem equal_ints (w : World) (v v' : Value) (B : Nat) (xs ys : List Int) (hx : SlI w B v xs) (hy : SlI w B v' ys) (hbx : xs.length ≤ 140737488355328) (hby : ys.length ≤ 140737488355328) :
    Calls Try.prog 7 #[v, v'] w fun e w' => e = .returned (.bool (decide (xs = ys))) ∧ ∃ q, w' = w.drewN q := by
  obtain ⟨A, n, c, rfl, hxl, _, _, hr⟩ := hx
  obtain ⟨A', m, c', rfl, hyl, _, _, hs⟩ := hy
  rw [hxl] at hbx
  rw [hyl] at hby
  by_cases hnm : n = m
  · subst hnm
    have HX := Lib.hid hxl
    have HY := Lib.hid hyl
    clear hxl hyl hby
    go_enter Try.func7, Try.ntmps7
    go_wp2
    go_loopw [13] (fun i wr => ∃ k q : Nat, k ≤ n ∧ i = .int .i64 k ∧ Hid (xs.take k = ys.take k) ∧ wr = w.drewN q) (fun i _ => n - (intOf i).toNat)
    case atStart => exact ⟨0, 0, Nat.zero_le _, rfl, rfl, rfl⟩
    case round =>
      obtain ⟨k, q, hk, rfl, Hag, rfl⟩ := hrel
      by_cases hlt : k < n
      · obtain ⟨b, o, x, rfl, hb, hf, c0⟩ := hr.one hlt
        obtain ⟨b', o', y, rfl, hb', hf', d0⟩ := hs.one hlt
        have Hf := Lib.hid hf
        have Hf' := Lib.hid hf'
        clear hf hf'
        have hlt' : (k : Int) < (n : Int) := by omega
        by_cases he : x = y
        · subst he
          go_wp2
          go_quiet (fail)
          go_wp2
          go_roundw
          case rel => exact ⟨k + 1, _, by omega, by go_num, by have := Hag.out; show xs.take (k + 1) = ys.take (k + 1); rw [List.take_add_one, List.take_add_one, this, Hf.out, Hf'.out], rfl⟩
          case measure => simp [intOf]; omega
        · have hneq : (x != y) = true := by simpa using he
          go_wp2
          go_quiet (fail)
          go_wp2
          go_ret
          refine ⟨ret_bool ?_, q + nq, by rw [World.drewN_drewN]⟩
          symm
          rw [decide_eq_false_iff_not]
          intro e
          subst e
          rw [Hf.out] at Hf'
          have := Hf'.out
          simp at this
          exact he this
      · obtain rfl : k = n := by omega
        go_wp2
        go_ret
        refine ⟨ret_bool ?_, _, rfl⟩
        symm
        rw [decide_eq_true_iff]
        have := Hag.out
        rwa [List.take_of_length_le (by rw [HX.out]; omega), List.take_of_length_le (by rw [HY.out]; omega)] at this
  · have hb : ((n : Int) == (m : Int)) = false := by simp; omega
    have hd : decide (xs = ys) = false := by
      rw [decide_eq_false_iff_not]; intro e; subst e; exact hnm (hxl.symm.trans hyl)
    rw [hd]
    clear hxl hyl hr hs hd
    go_enter Try.func7, Try.ntmps7
    go_wp2
    go_ret
    exact ⟨rfl, 0, rfl⟩

def IdxPost (xs : List Int) (x : Int) (w : World) (e : Ending) (w' : World) : Prop := ∃ r : Int, e = .returned (.int .i64 r) ∧ (0 ≤ r ↔ x ∈ xs) ∧ w = w'
set_option maxRecDepth 100000 in
set_option maxHeartbeats 2000000 in
theorem index_ints (w : World) (v : Value) (B : Nat) (xs : List Int) (x : Int) (hx : SlI w B v xs) (hb : xs.length ≤ 140737488355328) :
    Calls Try.prog 22 #[v, .int .i64 x] w (IdxPost xs x w) := by
  obtain ⟨A, n, c, rfl, hxl, _, _, hr⟩ := hx
  rw [hxl] at hb
  have HX := Lib.hid hxl
  clear hxl
  go_enter Try.func22, Try.ntmps22
  go_wp2
  go_loop [8] (fun i => ∃ k : Nat, k ≤ n ∧ i = .int .i64 k ∧ Hid (x ∉ xs.take k)) (fun i => n - (intOf i).toNat)
  case atStart => exact ⟨0, Nat.zero_le _, rfl, Lib.hid (by simp)⟩
  case round =>
    obtain ⟨k, hk, rfl, Hno⟩ := hrel
    by_cases hlt : k < n
    · obtain ⟨b, o, y, rfl, hb', hf, c0⟩ := hr.one hlt
      have Hf := Lib.hid hf
      have hlt' : (k : Int) < (n : Int) := by omega
      clear hf
      by_cases he : x = y
      · subst he
        go_wp2
        go_ret
        exact ⟨k, rfl, ⟨fun _ => List.mem_of_getElem? Hf.out, fun _ => by omega⟩, rfl⟩
      · have hne : (x == y) = false := by simpa using he
        have He := Lib.hid he
        clear he
        go_wp2
        go_round
        case rel => exact ⟨k + 1, by omega, by go_num, Lib.hid (by rw [List.take_add_one, Hf.out]; simp only [Option.toList_some, List.mem_append, List.mem_singleton, not_or]; exact ⟨Hno.out, He.out⟩)⟩
        case measure => simp [intOf]; omega
    · obtain rfl : k = n := by omega
      go_wp2
      go_ret
      have := Hno.out
      rw [List.take_of_length_le (by rw [HX.out]; omega)] at this
      exact ⟨-1, rfl, ⟨fun h => by omega, fun h => absurd h this⟩, rfl⟩
theorem contains_ints (w : World) (v : Value) (B : Nat) (xs : List Int) (x : Int) (hx : SlI w B v xs) (hb : xs.length ≤ 140737488355328) :
    Calls Try.prog 10 #[v, .int .i64 x] w fun e w' => e = .returned (.bool (decide (x ∈ xs))) ∧ w = w' := by
  have HI := Lib.hid (index_ints w v B xs x hx hb)
  obtain ⟨A, n, c, rfl, _⟩ := hx
  go_enter Try.func10, Try.ntmps10
  go_wp2_with fail
  refine HI.out.mono ?_
  rintro e w' ⟨r, rfl, hr, rfl⟩
  have e1 := Lib.hid (show decide (x ∈ xs) = decide (0 ≤ r) by by_cases h : x ∈ xs <;> simp [h, hr])
  clear hr
  go_wp2
  go_ret
  exact ⟨ret_bool e1.out.symm, rfl⟩
end Go.Proofs.Ytgmjeanoohmdlaa
