/- slices.Concat at bytes, up to the reach. Conditions: those typed. -/
import Derived.Test.YtaahpjjffggaiaaBytes
import Derived.Test.YtaahpjjffggaiaaLogOpen
namespace Go.Proofs.Ytaahpjjffggaiaa
open Go.RowKit Go.Gy
set_option linter.unusedVariables false
set_option maxRecDepth 100000 in
set_option maxHeartbeats 2000000 in
theorem concat_big (w : World) (A : Option Addr) (m c : Nat) (vs : List Value) (rs : List (List Nat)) (hm : vs.length = m) (hm1 : m ≤ 70368744177664) (hr : Rd w w.heap.size 1 A m vs) (hs : SlsB w w.heap.size vs rs) (hb : rs.flatten.length ≤ 140737488355328) :
    Calls Try.prog 21 #[.slice A m c] w fun e w' => ∃ v, e = .returned v ∧ w'.ownsRow w.heap.size 5 1 v rs.flatten.length (rs.flatten.map bv) ∧ Below w.heap.size w w' := by
  obtain ⟨i0, hi, hz0, hz1, hz2⟩ := info_parts info_byte
  have Hs := Lib.hid hs
  have Hm := Lib.hid hm
  have Hrm := Lib.hid (show rs.length = m from hs.1.symm.trans hm)
  clear hs hm
  go_enter Try.func21, Try.ntmps21
  go_wp2
  go_loop [3, 11] (fun q i => ∃ k jl : Nat, k ≤ m ∧ i = .int .i64 k ∧ q = .int .i64 jl ∧ jl = (joined rs k).length) (fun _ i => m - (intOf i).toNat)
  case atStart => exact ⟨0, 0, Nat.zero_le _, rfl, rfl, rfl⟩
  case round =>
    obtain ⟨k, jl, hk, rfl, rfl, hj⟩ := hrel
    have hjl : jl ≤ 140737488355328 := by rw [hj]; exact Nat.le_trans (joined_le rs k) hb
    have Hj := Lib.hid hj
    clear hj
    by_cases hlt : k < m
    · obtain ⟨b, o, u, rfl, hbb, hu, hc⟩ := hr.at_ hlt
      have hrk : rs[k]? = some (rs[k]'(by have := Hrm.out; omega)) := List.getElem?_eq_getElem _
      obtain ⟨A', n', c', rfl, h1, h2, h3, h4⟩ := Hs.out.2 k u _ hu hrk
      have hsum : (joined rs (k + 1)).length = jl + n' := by rw [joined_snoc rs k _ hrk, List.length_append, h1, Hj.out]
      have hb1 : jl + n' ≤ 140737488355328 := by rw [← hsum]; exact Nat.le_trans (joined_le rs (k + 1)) hb
      have HS := Lib.hid hsum
      clear hsum h4 hu hrk h1
      go_wp2
      go_round
      case rel => exact ⟨k + 1, jl + n', by omega, by go_num, by go_num, HS.out.symm⟩
      case measure => simp [intOf]; omega
    · obtain rfl : k = m := by omega
      have e : jl = rs.flatten.length := by rw [Hj.out]; unfold joined; rw [List.take_of_length_le (by rw [Hrm.out]; omega)]
      have He := Lib.hid e
      clear e
      go_wp2_with fail
      refine (grow_bytes _ jl (by omega)).mono ?_
      rintro e w1 ⟨v1, rfl, hown1, hb1⟩
      obtain ⟨A1, c1, rfl, _, _, _⟩ := own_rd hown1
      have hr1 := hr.below hb1
      have Hs1 := Lib.hid (Hs.out.below hb1)
      have hz := hb1.size
      go_wp2
      go_loopw [6, 27] (fun v i wr => ∃ k' jl' : Nat, k' ≤ k ∧ i = .int .i64 k' ∧ jl' = (joined rs k').length ∧ wr.ownsRow w.heap.size 5 1 v jl' ((joined rs k').map bv) ∧ Below w.heap.size w wr) (fun _ i _ => k - (intOf i).toNat)
      case atStart => exact ⟨0, 0, Nat.zero_le _, rfl, rfl, hown1, hb1⟩
      case round =>
        obtain ⟨k', jl', hk', rfl, hj', hown, hbw⟩ := hrel
        have hjl' : jl' ≤ 140737488355328 := by rw [hj']; exact Nat.le_trans (joined_le rs k') hb
        have Hj' := Lib.hid hj'
        clear hj'
        have hzr := hbw.size
        by_cases hlt' : k' < k
        · obtain ⟨b, o, u, rfl, hbb, hu, hc⟩ := (hr.below hbw).at_ hlt'
          have hrk : rs[k']? = some (rs[k']'(by have := Hrm.out; omega)) := List.getElem?_eq_getElem _
          obtain ⟨A', n', c', rfl, h1, h2, h3, h4⟩ := (Hs.out.below hbw).2 k' u _ hu hrk
          have hsum : (joined rs (k' + 1)).length = jl' + n' := by rw [joined_snoc rs k' _ hrk, List.length_append, h1, Hj'.out]
          have hbd : jl' + n' ≤ 140737488355328 := by rw [← hsum]; exact Nat.le_trans (joined_le rs (k' + 1)) hb
          have HS := Lib.hid hsum
          have HJ := Lib.hid (joined_snoc rs k' _ hrk)
          clear hsum hu hrk h1
          go_wp2_with (at_builtin; refine wpList_extend rfl (.tmp 31) (.tmp 32) 33 rfl w.heap.size 5 i0 (.int .u8 0) 1 1 Try.underlying33 hi hz0 hz1 hz2 rfl (by omega) _ _ _ rfl hown A' n' c' w.heap.size _ rfl h3 h4 (bv_one _) (by unfold maxLen; omega) (by omega) hzr ?_; intro v2 w2 hown2 hb2; obtain ⟨A2, c2, rfl, _, _, _⟩ := own_rd hown2)
          go_roundw
          case rel => exact ⟨k' + 1, jl' + n', by omega, by go_num, HS.out.symm, by rw [HJ.out, List.map_append]; exact hown2, hbw.trans hb2⟩
          case measure => simp [intOf]; omega
        · obtain rfl : k' = k := by omega
          obtain ⟨A2, c2, rfl, _, _, _⟩ := own_rd hown
          go_wp2
          go_ret
          have e : joined rs k' = rs.flatten := by unfold joined; rw [List.take_of_length_le (by rw [Hrm.out]; omega)]
          rw [e, Hj'.out, e] at hown
          rw [e] at Hj'
          rw [Hj'.out]
          exact ⟨_, rfl, hown, hbw⟩


theorem concat_three (w : World) (u1 u2 u3 : Value) (r1 r2 r3 : List Nat) (h1 : SlB w w.heap.size u1 r1) (h2 : SlB w w.heap.size u2 r2) (h3 : SlB w w.heap.size u3 r3) (hb : r1.length + r2.length + r3.length ≤ 140737488355328) :
    Calls Try.prog 21 #[.slice (some ⟨w.heap.size, 0, none⟩) 3 3] (w.alloc (.cells #[u1, u2, u3] 33)) fun e w' => ∃ v, e = .returned v ∧ SlB w' w'.heap.size v (r1 ++ (r2 ++ r3)) ∧ Below w.heap.size w w' := by
  have ha : Below w.heap.size w (w.alloc (.cells #[u1, u2, u3] 33)) := (Below.refl _ _).alloc (Nat.le_refl _) _
  have hs := ha.size
  refine (concat_big _ _ 3 3 [u1, u2, u3] [r1, r2, r3] rfl (by omega) ?_ ?_ ?_).mono ?_
  · have h := Rd.lit w 33 [u1, u2, u3] 1 3 rfl
    simpa using h
  · exact SlsB.cons ((h1.below ha).more hs) (SlsB.cons ((h2.below ha).more hs) (SlsB.cons ((h3.below ha).more hs) (SlsB.nil _ _)))
  · simp; omega
  · rintro e w' ⟨v, rfl, ho, hb'⟩
    refine ⟨v, rfl, ?_, ha.trans (hb'.mono hs)⟩
    have := SlB.own (r := [r1, r2, r3].flatten) ho
    simpa using this
end Go.Proofs.Ytaahpjjffggaiaa
