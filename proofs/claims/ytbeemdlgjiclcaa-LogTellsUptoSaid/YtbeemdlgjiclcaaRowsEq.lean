/- slices.EqualFunc on rows of bytes, slices.ContainsFunc as LogCut uses it. Conditions: those typed. -/
import Derived.Test.YtbeemdlgjiclcaaLogOpen
namespace Go.Proofs.Ytbeemdlgjiclcaa
open Go.RowKit Go.Gy
set_option linter.unusedVariables false

set_option maxRecDepth 100000 in
set_option maxHeartbeats 2000000 in
theorem equal_rows (w : World) (v v' : Value) (B : Nat) (xs ys : List (List Nat)) (hx : SlSs w B v xs) (hy : SlSs w B v' ys) (hbx : ∀ r ∈ xs, r.length ≤ 140737488355328) (hby : ∀ r ∈ ys, r.length ≤ 140737488355328) (hn1 : xs.length ≤ 1048576) (hn2 : ys.length ≤ 1048576) :
    Calls Try.prog 37 #[v, v', .func (.func 34) #[] #[]] w fun e w' => e = .returned (.bool (decide (xs = ys))) ∧ ∃ q, w' = w.drewN q := by
  obtain ⟨A, n, c, vs, rfl, hxl, _, _, hr, hxs⟩ := hx
  obtain ⟨A', m, c', vs', rfl, hyl, _, _, hs, hys⟩ := hy
  rw [hxl] at hn1
  rw [hyl] at hn2
  have Hxs := Lib.hid hxs
  have Hys := Lib.hid hys
  have Hbx := Lib.hid hbx
  have Hby := Lib.hid hby
  clear hxs hys hbx hby
  by_cases hnm : n = m
  · subst hnm
    have HX := Lib.hid hxl
    have HY := Lib.hid hyl
    clear hxl hyl hn2
    go_enter Try.func37, Try.ntmps37
    go_wp2
    go_loopw [17] (fun i wr => ∃ k q : Nat, k ≤ n ∧ i = .int .i64 k ∧ Hid (xs.take k = ys.take k) ∧ wr = w.drewN q) (fun i _ => n - (intOf i).toNat)
    case atStart => exact ⟨0, 0, Nat.zero_le _, rfl, rfl, rfl⟩
    case round =>
      obtain ⟨k, q, hk, rfl, Hag, rfl⟩ := hrel
      by_cases hlt : k < n
      · obtain ⟨b, o, u, rfl, hb, hu, c0⟩ := hr.at_ hlt
        obtain ⟨b', o', u', rfl, hb', hu', d0⟩ := hs.at_ hlt
        have hxk : xs[k]? = some (xs[k]'(by have := HX.out; omega)) := List.getElem?_eq_getElem _
        have hyk : ys[k]? = some (ys[k]'(by have := HY.out; omega)) := List.getElem?_eq_getElem _
        obtain ⟨x, hx0⟩ : ∃ x, x = xs[k]'(by have := HX.out; omega) := ⟨_, rfl⟩
        obtain ⟨y, hy0⟩ : ∃ y, y = ys[k]'(by have := HY.out; omega) := ⟨_, rfl⟩
        rw [← hx0] at hxk
        rw [← hy0] at hyk
        have HC := Lib.hid (equal_bytes (w.drewN q) u u' B x y ((Hxs.out.2 k u x hu hxk).below (below_drewN (Below.refl _ _) q)) ((Hys.out.2 k u' y hu' hyk).below (below_drewN (Below.refl _ _) q)) (Hbx.out x (List.mem_of_getElem? hxk)) (Hby.out y (List.mem_of_getElem? hyk)))
        have Hf := Lib.hid hxk
        have Hf' := Lib.hid hyk
        clear hx0 hy0 hxk hyk hu hu'
        have hlt' : (k : Int) < (n : Int) := by omega
        by_cases he : x = y
        · subst he
          go_wp2_with fail
          refine HC.out.mono ?_
          rintro e w1 ⟨he, q1, rfl⟩
          obtain rfl : e = .returned (.bool true) := he.trans (ret_bool (by simp))
          clear HC
          go_wp2
          go_roundw
          case rel => exact ⟨k + 1, q + q1, by omega, by go_num, by have := Hag.out; show xs.take (k + 1) = ys.take (k + 1); rw [List.take_add_one, List.take_add_one, this, Hf.out, Hf'.out], rfl⟩
          case measure => simp [intOf]; omega
        · go_wp2_with fail
          refine HC.out.mono ?_
          rintro e w1 ⟨he1, q1, rfl⟩
          obtain rfl : e = .returned (.bool false) := he1.trans (ret_bool (by simp [he]))
          clear HC
          go_wp2
          go_ret
          refine ⟨ret_bool ?_, q + q1, rfl⟩
          symm
          rw [decide_eq_false_iff_not]
          intro e
          subst e
          rw [Hf.out] at Hf'
          have := Hf'.out
          simp at this
          exact he this
      · obtain rfl : k = n := by omega
        go_wp2
        go_ret
        refine ⟨ret_bool ?_, _, rfl⟩
        symm
        rw [decide_eq_true_iff]
        have := Hag.out
        rwa [List.take_of_length_le (by rw [HX.out]; omega), List.take_of_length_le (by rw [HY.out]; omega)] at this
  · have hb : ((n : Int) == (m : Int)) = false := by simp; omega
    have hd : decide (xs = ys) = false := by
      rw [decide_eq_false_iff_not]; intro e; subst e; exact hnm (hxl.symm.trans hyl)
    rw [hd]
    clear hxl hyl hr hs hd
    go_enter Try.func37, Try.ntmps37
    go_wp2
    go_ret
    exact ⟨rfl, 0, rfl⟩

theorem long_any (w : World) (A : Option Addr) (n c : Nat) : Calls Try.prog 40 #[.slice A n c] w fun e w' => e = .returned (.bool (decide ((2000 : Int) < (n : Int)))) ∧ w = w' := by
  go_enter Try.func40, Try.ntmps40
  go_wp2
  go_ret
  exact ⟨rfl, rfl⟩
set_option maxRecDepth 100000 in
set_option maxHeartbeats 2000000 in
theorem index_rows (w : World) (v : Value) (B : Nat) (rs : List (List Nat)) (hv : SlSs w B v rs) (hn : rs.length ≤ 1048576) (hx : ∃ r ∈ rs, 2000 < r.length) :
    Calls Try.prog 91 #[v, .func (.func 40) #[] #[]] w fun e w' => (∃ p : Nat, e = .returned (.int .i64 (p : Int))) ∧ w = w' := by
  obtain ⟨A, n, c, vs, rfl, hxl, _, _, hr, hxs⟩ := hv
  rw [hxl] at hn
  have HX := Lib.hid hxl
  have Hxs := Lib.hid hxs
  have Hx := Lib.hid hx
  clear hxl hxs hx
  go_enter Try.func91, Try.ntmps91
  go_wp2
  go_loop [8] (fun i => ∃ k : Nat, k ≤ n ∧ i = .int .i64 k ∧ Hid (∀ r ∈ rs.take k, r.length ≤ 2000)) (fun i => n - (intOf i).toNat)
  case atStart => exact ⟨0, Nat.zero_le _, rfl, Lib.hid (by simp)⟩
  case round =>
    obtain ⟨k, hk, rfl, Hag⟩ := hrel
    by_cases hlt : k < n
    · obtain ⟨b, o, u, rfl, hb, hu, c0⟩ := hr.at_ hlt
      have hxk : rs[k]? = some (rs[k]'(by have := HX.out; omega)) := List.getElem?_eq_getElem _
      obtain ⟨x, hx0⟩ : ∃ x, x = rs[k]'(by have := HX.out; omega) := ⟨_, rfl⟩
      rw [← hx0] at hxk
      obtain ⟨A', n', c', rfl, h1, _, _, _⟩ := Hxs.out.2 k u x hu hxk
      have Hf := Lib.hid hxk
      have H1 := Lib.hid h1
      clear hx0 hxk hu h1
      have hlt' : (k : Int) < (n : Int) := by omega
      have HL := Lib.hid (long_any w A' n' c')
      by_cases he : 2000 < n'
      · go_wp2_with fail
        refine HL.out.mono ?_
        rintro e w1 ⟨he1, rfl⟩
        obtain rfl : e = .returned (.bool true) := he1.trans (ret_bool (by simp; omega))
        go_wp2
        go_ret
        exact ⟨⟨k, rfl⟩, rfl⟩
      · go_wp2_with fail
        refine HL.out.mono ?_
        rintro e w1 ⟨he1, rfl⟩
        obtain rfl : e = .returned (.bool false) := he1.trans (ret_bool (by simp; omega))
        go_wp2
        go_round
        case rel =>
          refine ⟨k + 1, by omega, by go_num, Lib.hid fun r hr => ?_⟩
          rw [List.take_add_one, Hf.out] at hr
          simp only [List.mem_append, Option.toList_some, List.mem_singleton] at hr
          rcases hr with hr | rfl
          · exact Hag.out r hr
          · rw [H1.out]; omega
        case measure => simp [intOf]; omega
    · exfalso
      obtain ⟨r, hr1, hr2⟩ := Hx.out
      have := Hag.out r (by rw [List.take_of_length_le (by rw [HX.out]; omega)]; exact hr1)
      omega
set_option maxRecDepth 100000 in
set_option maxHeartbeats 2000000 in
theorem contains_rows (w : World) (v : Value) (B : Nat) (rs : List (List Nat)) (hv : SlSs w B v rs) (hn : rs.length ≤ 1048576) (hx : ∃ r ∈ rs, 2000 < r.length) :
    Calls Try.prog 39 #[v, .func (.func 40) #[] #[]] w fun e w' => e = .returned (.bool true) ∧ w = w' := by
  have HI := Lib.hid (index_rows w v B rs hv hn hx)
  clear hv hn hx
  go_enter Try.func39, Try.ntmps39
  go_wp2_with fail
  refine HI.out.mono ?_
  rintro e w1 ⟨⟨p, rfl⟩, rfl⟩
  clear HI
  have hp : (0 : Int) ≤ (p : Int) := by omega
  go_wp2
  go_ret
  exact ⟨ret_bool (by simp), rfl⟩
end Go.Proofs.Ytbeemdlgjiclcaa
