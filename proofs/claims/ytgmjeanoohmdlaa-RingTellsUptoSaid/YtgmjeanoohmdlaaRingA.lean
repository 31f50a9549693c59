/- ring.Check. Conditions: those typed. -/
import Derived.Test.YtgmjeanoohmdlaaInts
namespace Go.Proofs.Ytgmjeanoohmdlaa
open Go.RowKit Go.Gy
set_option linter.unusedVariables false

def badK (n : Nat) (k : Int) : Bool := decide (k < 0) || decide ((n : Int) ≤ k)
def checkR (rs : List (List Int)) : Nat := if 64 < rs.length then 2 else if rs.any (fun r => r.any (badK rs.length)) = true then 1 else 0
theorem badK_true {n : Nat} {k : Int} (h : k < 0 ∨ (n : Int) ≤ k) : badK n k = true := by simp [badK]; omega
theorem badK_false {n : Nat} {k : Int} (h : ¬ (k < 0 ∨ (n : Int) ≤ k)) : badK n k = false := by simp [badK]; omega
theorem checkR_bad {rs : List (List Int)} {r : List Int} {k : Int} (hn : rs.length ≤ 64) (hr : r ∈ rs) (hk : k ∈ r) (hb : badK rs.length k = true) : checkR rs = 1 := by
  unfold checkR
  rw [if_neg (by omega), if_pos (by rw [List.any_eq_true]; exact ⟨r, hr, by rw [List.any_eq_true]; exact ⟨k, hk, hb⟩⟩)]
theorem checkR_good {rs : List (List Int)} (hn : rs.length ≤ 64) (h : ∀ r ∈ rs, r.any (badK rs.length) = false) : checkR rs = 0 := by
  unfold checkR
  rw [if_neg (by omega), if_neg (by rw [List.any_eq_true]; rintro ⟨r, hr, hb⟩; rw [h r hr] at hb; cases hb)]
set_option maxRecDepth 100000 in
set_option maxHeartbeats 2000000 in
theorem check_ring (w : World) (v : Value) (B : Nat) (rs : List (List Int)) (hv : RowsI w B v rs) (hn : rs.length ≤ 140737488355328) (hl : ∀ r ∈ rs, r.length ≤ 140737488355328) :
    Calls Try.prog 15 #[v] w fun e w' => e = .returned (.int .i64 ((checkR rs : Nat) : Int)) ∧ w = w' := by
  obtain ⟨A, n, c, vs, rfl, hN, _, _, hr, hs⟩ := hv
  rw [hN] at hn
  by_cases h64 : 64 < n
  · have e : checkR rs = 2 := by unfold checkR; rw [if_pos (by omega)]
    rw [e]
    have h' : (64 : Int) < (n : Int) := by omega
    clear e hr hs hN hl
    go_enter Try.func15, Try.ntmps15
    go_wp2
    go_ret
    exact ⟨rfl, rfl⟩
  · have h' : ¬ (64 : Int) < (n : Int) := by omega
    have HN := Lib.hid hN
    have Hs := Lib.hid hs
    have HL := Lib.hid hl
    clear hN hs hl
    go_enter Try.func15, Try.ntmps15
    go_wp2
    go_loop [12] (fun i => ∃ k : Nat, k ≤ n ∧ i = .int .i64 k ∧ Hid (∀ r ∈ rs.take k, r.any (badK n) = false)) (fun i => n - (intOf i).toNat)
    case atStart => exact ⟨0, Nat.zero_le _, rfl, Lib.hid (by simp)⟩
    case round =>
      obtain ⟨k, hk, rfl, Hgd⟩ := hrel
      by_cases hlt : k < n
      · obtain ⟨b, o, u, rfl, hbB, hu, hc⟩ := hr.at_ hlt
        have hrk : rs[k]? = some (rs[k]'(by have := HN.out; omega)) := List.getElem?_eq_getElem _
        obtain ⟨r, hr0⟩ : ∃ r, r = rs[k]'(by have := HN.out; omega) := ⟨_, rfl⟩
        rw [← hr0] at hrk
        obtain ⟨A', m, c', rfl, hm, _, _, hrr⟩ := Hs.out.2 k u r hu hrk
        have hmb : m ≤ 140737488355328 := by rw [← hm]; exact HL.out r (List.mem_of_getElem? hrk)
        have Hm := Lib.hid hm
        have Hrk := Lib.hid hrk
        have hlt' : (k : Int) < (n : Int) := by omega
        clear hr0 hrk hu hm
        go_wp2
        go_loop [18] (fun i => ∃ j : Nat, j ≤ m ∧ i = .int .i64 j ∧ Hid ((r.take j).any (badK n) = false)) (fun i => m - (intOf i).toNat)
        case atStart => exact ⟨0, Nat.zero_le _, rfl, Lib.hid (by simp)⟩
        case round =>
          obtain ⟨j, hj, rfl, Hin⟩ := hrel
          by_cases hjl : j < m
          · obtain ⟨b', o', z, rfl, _, hz, hcz⟩ := hrr.one hjl
            have Hz := Lib.hid hz
            have hjl' : (j : Int) < (m : Int) := by omega
            clear hz
            by_cases hb : z < 0 ∨ (n : Int) ≤ z
            · have Hb := Lib.hid (badK_true hb)
              have hbb : z < 0 ∨ (0 ≤ z ∧ (n : Int) ≤ z) := by omega
              clear hb
              rcases hbb with q1 | ⟨q1, q2⟩
              all_goals
                go_wp2
                go_ret
                exact ⟨ret_int (by rw [checkR_bad (by rw [HN.out]; omega) (List.mem_of_getElem? Hrk.out) (List.mem_of_getElem? Hz.out) (by rw [HN.out]; exact Hb.out)]; rfl), rfl⟩
            · have Hb := Lib.hid (badK_false hb)
              have q1 : 0 ≤ z := by omega
              have q2 : z < (n : Int) := by omega
              clear hb
              go_wp2
              go_round
              case rel => exact ⟨j + 1, by omega, by go_num, Lib.hid (by rw [List.take_add_one, Hz.out, List.any_append, Hin.out]; simp [Hb.out])⟩
              case measure => simp [intOf]; omega
          · obtain rfl : j = m := by omega
            go_wp2
            go_round
            case rel => exact ⟨k + 1, by omega, by go_num, Lib.hid (by
              intro t ht
              rw [List.take_add_one, Hrk.out] at ht
              simp only [Option.toList_some, List.mem_append, List.mem_singleton] at ht
              rcases ht with ht | rfl
              · exact Hgd.out t ht
              · have := Hin.out; rwa [List.take_of_length_le (by rw [Hm.out]; omega)] at this)⟩
            case measure => simp [intOf]; omega
      · obtain rfl : k = n := by omega
        go_wp2
        go_ret
        refine ⟨ret_int ?_, rfl⟩
        rw [checkR_good (by rw [HN.out]; omega) (by
          have := Hgd.out
          rw [List.take_of_length_le (by rw [HN.out]; omega)] at this
          rw [HN.out]; exact this)]
        rfl
end Go.Proofs.Ytgmjeanoohmdlaa
