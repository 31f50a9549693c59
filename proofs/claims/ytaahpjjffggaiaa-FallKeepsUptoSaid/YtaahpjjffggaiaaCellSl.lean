/- Slices of cells: slices.Grow and slices.Concat at cells. Conditions: those typed. -/
import Derived.Test.YtaahpjjffggaiaaCells
import Derived.Lib.AppendZerosOnto
import Derived.Lib.SliceRun
namespace Go.Proofs.Ytaahpjjffggaiaa
open Go.RowKit Go.Gy
set_option linter.unusedVariables false
/-- The value v reads as the cells r, below block B. -/
def SlC (w : World) (B : Nat) (v : Value) (r : List Cell) : Prop := ∃ A n c, v = .slice A n c ∧ r.length = n ∧ n ≤ c ∧ (A = none → c = 0) ∧ Rd w B 2 A n (r.flatMap encC)
theorem SlC.below {w w' : World} {B : Nat} {v : Value} {r : List Cell} (h : SlC w B v r) (hb : Below B w w') : SlC w' B v r := by
  obtain ⟨A, n, c, h1, h2, h3, h4, h5⟩ := h
  exact ⟨A, n, c, h1, h2, h3, h4, h5.below hb⟩
theorem SlC.more {w : World} {B B' : Nat} {v : Value} {r : List Cell} (h : SlC w B v r) (hB : B ≤ B') : SlC w B' v r := by
  obtain ⟨A, n, c, h1, h2, h3, h4, h5⟩ := h
  exact ⟨A, n, c, h1, h2, h3, h4, h5.more hB⟩
theorem SlC.own {w : World} {base n : Nat} {v : Value} {r : List Cell} (h : w.ownsRow base 24 2 v n (r.flatMap encC)) : SlC w w.heap.size v r := by
  have hl : r.length = n := by
    have := h.1
    rw [flat_length encC_len] at this
    omega
  obtain ⟨A, c, rfl, h1, _, h2⟩ := own_rd h
  exact ⟨A, n, c, rfl, hl, h1, fun hA => (own_none h hA).2, h2⟩
/-- several -/
def SlsC (w : World) (B : Nat) (vs : List Value) (rs : List (List Cell)) : Prop := vs.length = rs.length ∧ ∀ (i : Nat) (v : Value) (r : List Cell), vs[i]? = some v → rs[i]? = some r → SlC w B v r
theorem SlsC.below {w w' : World} {B : Nat} {vs : List Value} {rs : List (List Cell)} (h : SlsC w B vs rs) (hb : Below B w w') : SlsC w' B vs rs := ⟨h.1, fun i v r h1 h2 => (h.2 i v r h1 h2).below hb⟩
theorem SlsC.more {w : World} {B B' : Nat} {vs : List Value} {rs : List (List Cell)} (h : SlsC w B vs rs) (hB : B ≤ B') : SlsC w B' vs rs := ⟨h.1, fun i v r h1 h2 => (h.2 i v r h1 h2).more hB⟩

theorem SlsC.nil (w : World) (B : Nat) : SlsC w B [] [] := ⟨rfl, fun i v r h => by simp at h⟩
theorem SlsC.cons {w : World} {B : Nat} {v : Value} {r : List Cell} {vs : List Value} {rs : List (List Cell)} (h : SlC w B v r) (hs : SlsC w B vs rs) : SlsC w B (v :: vs) (r :: rs) := by
  refine ⟨by simp [hs.1], fun i v' r' h1 h2 => ?_⟩
  cases i with
  | zero => simp at h1 h2; subst h1 h2; exact h
  | succ i => exact hs.2 i v' r' (by simpa using h1) (by simpa using h2)
set_option maxRecDepth 100000 in
set_option maxHeartbeats 1000000 in
theorem grow_cells (w : World) (n : Nat) (hn : n ≤ 100000) :
    Calls Try.prog 102 #[.slice none 0 0, .int .i64 n] w fun e w' => ∃ v, e = .returned v ∧ w'.ownsRow w.heap.size 24 2 v 0 [] ∧ Below w.heap.size w w' := by
  obtain ⟨i0, hi, hz0, hz1, hz2⟩ := info_parts info_cell
  by_cases h0 : n = 0
  · subst h0
    go_enter Try.func102, Try.ntmps102
    go_wp2
    go_ret
    exact ⟨_, rfl, World.ownsRow_nil _ _ _ _, Below.refl _ _⟩
  · have hrz : ∀ ty, (Builtin.append_ #[25, 3] ty #[.slice none 0 0, .int .i64 n]).run Try.prog w =
        .ok (.slice (some ⟨w.heap.size, 0, none⟩) n (grownCap w n 0 24)) (w.drew.alloc (.cells (([] : List Value).toArray ++ Builtin.zeroCells (Value.agg #[.int .i64 0, .int .i64 0]).cells n ++ Builtin.zeroCells (Value.agg #[.int .i64 0, .int .i64 0]).cells (grownCap w n 0 24 - n)) 24)) := fun ty => by
      have h := Lib.run_append_grow_zeros w 25 3 ty 24 i0 (.agg #[.int .i64 0, .int .i64 0]) .i64 .i64 Try.underlying25 Try.underlying3 hi hz0 none 0 0 [] (run_firstCells_none w.drew i0.size 0 0 0) n (by omega) (by omega) (by omega) (by omega)
        (by rw [hz2]; omega) (by rw [hz2]; have := growslice_fits (need := 0 + n) (old := 0) (bytes := 16) (by omega) (by omega); exact this)
      simpa using h
    have hGn : n ≤ grownCap w n 0 24 := grownCap_ge w _ _ _
    have hG63 : grownCap w n 0 24 ≤ maxLen := grownCap_le_maxLen w n 0 24 (by unfold maxLen; omega)
    obtain ⟨G, hG⟩ : ∃ G, G = grownCap w n 0 24 := ⟨_, rfl⟩
    rw [← hG] at hrz hGn hG63
    clear hG
    have hn0 : (0 : Int) < (n : Int) := by omega
    have hG2 : G ≤ 9223372036854775807 := by unfold maxLen at hG63; omega
    go_enter Try.func102, Try.ntmps102
    go_wp2_with (at_builtin; refine Lib.wpList_append_run _ rfl _ _ _ _ rfl _ _ rfl rfl _ _ (hrz _) ?_)
    go_ret
    refine ⟨_, rfl, ?_, ?_⟩
    · refine World.ownsRow_made (e := 24) (size := 2) w.drew _ G (Nat.le_refl _) hG63 ?_
      simp [size_zeroCells]; omega
    · exact (Below.refl _ w).drew.alloc (Nat.le_refl _) _

def joinedC (rs : List (List Cell)) (k : Nat) : List Cell := (rs.take k).flatten
theorem joinedC_snoc (rs : List (List Cell)) (k : Nat) (r : List Cell) (h : rs[k]? = some r) : joinedC rs (k + 1) = joinedC rs k ++ r := by
  unfold joinedC; rw [List.take_add_one, h]; simp
theorem joinedC_le (rs : List (List Cell)) (k : Nat) : (joinedC rs k).length ≤ rs.flatten.length := by
  unfold joinedC
  have : rs = rs.take k ++ rs.drop k := (List.take_append_drop k rs).symm
  conv => rhs; rw [this]
  rw [List.flatten_append, List.length_append]; exact Nat.le_add_right _ _

set_option maxRecDepth 100000 in
set_option maxHeartbeats 2000000 in
theorem concat_cells (w : World) (A : Option Addr) (m c : Nat) (vs : List Value) (rs : List (List Cell)) (hm : vs.length = m) (hm1 : m ≤ 1000) (hr : Rd w w.heap.size 1 A m vs) (hs : SlsC w w.heap.size vs rs) (hb : rs.flatten.length ≤ 100000) :
    Calls Try.prog 87 #[.slice A m c] w fun e w' => ∃ v, e = .returned v ∧ w'.ownsRow w.heap.size 24 2 v rs.flatten.length (rs.flatten.flatMap encC) ∧ Below w.heap.size w w' := by
  obtain ⟨i0, hi, hz0, hz1, hz2⟩ := info_parts info_cell
  have Hs := Lib.hid hs
  have Hm := Lib.hid hm
  have Hrm := Lib.hid (show rs.length = m from hs.1.symm.trans hm)
  clear hs hm
  go_enter Try.func87, Try.ntmps87
  go_wp2
  go_loop [3, 11] (fun q i => ∃ k jl : Nat, k ≤ m ∧ i = .int .i64 k ∧ q = .int .i64 jl ∧ jl = (joinedC rs k).length) (fun _ i => m - (intOf i).toNat)
  case atStart => exact ⟨0, 0, Nat.zero_le _, rfl, rfl, rfl⟩
  case round =>
    obtain ⟨k, jl, hk, rfl, rfl, hj⟩ := hrel
    have hjl : jl ≤ 100000 := by rw [hj]; exact Nat.le_trans (joinedC_le rs k) hb
    have Hj := Lib.hid hj
    clear hj
    by_cases hlt : k < m
    · obtain ⟨b, o, u, rfl, hbb, hu, hc⟩ := hr.at_ hlt
      have hrk : rs[k]? = some (rs[k]'(by have := Hrm.out; omega)) := List.getElem?_eq_getElem _
      obtain ⟨A', n', c', rfl, h1, h2, h3, h4⟩ := Hs.out.2 k u _ hu hrk
      have hsum : (joinedC rs (k + 1)).length = jl + n' := by rw [joinedC_snoc rs k _ hrk, List.length_append, h1, Hj.out]
      have hb1 : jl + n' ≤ 100000 := by rw [← hsum]; exact Nat.le_trans (joinedC_le rs (k + 1)) hb
      have HS := Lib.hid hsum
      clear hsum h4 hu hrk h1
      go_wp2
      go_round
      case rel => exact ⟨k + 1, jl + n', by omega, by go_num, by go_num, HS.out.symm⟩
      case measure => simp [intOf]; omega
    · obtain rfl : k = m := by omega
      have e : jl = rs.flatten.length := by rw [Hj.out]; unfold joinedC; rw [List.take_of_length_le (by rw [Hrm.out]; omega)]
      have He := Lib.hid e
      clear e
      go_wp2_with fail
      refine (grow_cells _ jl (by omega)).mono ?_
      rintro e w1 ⟨v1, rfl, hown1, hb1⟩
      obtain ⟨A1, c1, rfl, _, _, _⟩ := own_rd hown1
      have hr1 := hr.below hb1
      have Hs1 := Lib.hid (Hs.out.below hb1)
      have hz := hb1.size
      go_wp2
      go_loopw [6, 27] (fun v i wr => ∃ k' jl' : Nat, k' ≤ k ∧ i = .int .i64 k' ∧ jl' = (joinedC rs k').length ∧ wr.ownsRow w.heap.size 24 2 v jl' ((joinedC rs k').flatMap encC) ∧ Below w.heap.size w wr) (fun _ i _ => k - (intOf i).toNat)
      case atStart => exact ⟨0, 0, Nat.zero_le _, rfl, rfl, hown1, hb1⟩
      case round =>
        obtain ⟨k', jl', hk', rfl, hj', hown, hbw⟩ := hrel
        have hjl' : jl' ≤ 100000 := by rw [hj']; exact Nat.le_trans (joinedC_le rs k') hb
        have Hj' := Lib.hid hj'
        clear hj'
        have hzr := hbw.size
        by_cases hlt' : k' < k
        · obtain ⟨b, o, u, rfl, hbb, hu, hc⟩ := (hr.below hbw).at_ hlt'
          have hrk : rs[k']? = some (rs[k']'(by have := Hrm.out; omega)) := List.getElem?_eq_getElem _
          obtain ⟨A', n', c', rfl, h1, h2, h3, h4⟩ := (Hs.out.below hbw).2 k' u _ hu hrk
          have hsum : (joinedC rs (k' + 1)).length = jl' + n' := by rw [joinedC_snoc rs k' _ hrk, List.length_append, h1, Hj'.out]
          have hbd : jl' + n' ≤ 100000 := by rw [← hsum]; exact Nat.le_trans (joinedC_le rs (k' + 1)) hb
          have HS := Lib.hid hsum
          have HJ := Lib.hid (joinedC_snoc rs k' _ hrk)
          clear hsum hu hrk h1
          go_wp2_with (at_builtin; refine wpList_extend rfl (.tmp 31) (.tmp 32) 25 rfl w.heap.size 24 i0 (.agg #[.int .i64 0, .int .i64 0]) 2 16 Try.underlying25 hi hz0 hz1 hz2 rfl (by omega) _ _ _ rfl hown A' n' c' w.heap.size _ rfl h3 h4 (encC_one _) (by unfold maxLen; omega) (by omega) hzr ?_; intro v2 w2 hown2 hb2; obtain ⟨A2, c2, rfl, _, _, _⟩ := own_rd hown2)
          go_roundw
          case rel => exact ⟨k' + 1, jl' + n', by omega, by go_num, HS.out.symm, by rw [HJ.out, List.flatMap_append]; exact hown2, hbw.trans hb2⟩
          case measure => simp [intOf]; omega
        · obtain rfl : k' = k := by omega
          obtain ⟨A2, c2, rfl, _, _, _⟩ := own_rd hown
          go_wp2
          go_ret
          have e : joinedC rs k' = rs.flatten := by unfold joinedC; rw [List.take_of_length_le (by rw [Hrm.out]; omega)]
          rw [e, Hj'.out, e] at hown
          rw [e] at Hj'
          rw [Hj'.out]
          exact ⟨_, rfl, hown, hbw⟩
end Go.Proofs.Ytaahpjjffggaiaa
