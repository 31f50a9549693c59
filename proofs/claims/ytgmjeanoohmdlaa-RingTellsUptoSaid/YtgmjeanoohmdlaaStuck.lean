/- ring.Stuck. Conditions: those typed. -/
import Derived.Test.YtgmjeanoohmdlaaSteps
namespace Go.Proofs.Ytgmjeanoohmdlaa
open Go.RowKit Go.Gy
set_option linter.unusedVariables false
structure GoodG (rs : List (List Int)) : Prop where
  len : rs.length ≤ 64
  ok : ∀ r ∈ rs, ∀ x ∈ r, 0 ≤ x ∧ x < (rs.length : Int)
  size : rs.flatten.length ≤ 1000000000
theorem GoodG.row {rs : List (List Int)} (h : GoodG rs) {r : List Int} (hr : r ∈ rs) : r.length ≤ 1000000000 := by
  obtain ⟨a, ha⟩ := List.getElem?_of_mem hr
  have := flat_mem_le ha
  have := h.size
  omega
theorem GoodG.check {rs : List (List Int)} (h : GoodG rs) : checkR rs = 0 := by
  refine checkR_good h.len fun r hr => ?_
  rw [List.any_eq_false]
  intro x hx
  have := h.ok r hr x hx
  rw [badK_false (by omega)]
  simp
theorem GoodG.of_check {rs : List (List Int)} (h : checkR rs = 0) (hs : rs.flatten.length ≤ 1000000000) : GoodG rs := by
  unfold checkR at h
  split at h
  · cases h
  · rename_i h1
    split at h
    · cases h
    · rename_i h2
      refine ⟨by omega, fun r hr x hx => ?_, hs⟩
      rw [List.any_eq_true] at h2
      have h3 : ¬ badK rs.length x = true := fun h4 => h2 ⟨r, hr, by rw [List.any_eq_true]; exact ⟨x, hx, h4⟩⟩
      by_cases h5 : x < 0 ∨ (rs.length : Int) ≤ x
      · exact absurd (badK_true h5) h3
      · omega
def stuckI (p : Nat → Bool) (n : Nat) : List Int := ((List.range n).filter p).map fun (i : Nat) => (i : Int)
theorem stuckI_snoc (p : Nat → Bool) (n : Nat) : stuckI p (n + 1) = stuckI p n ++ if p n = true then [(n : Int)] else [] := by
  unfold stuckI
  rw [List.range_succ, List.filter_append, List.map_append]
  by_cases h : p n = true <;> simp [h]
theorem stuckI_len (p : Nat → Bool) (n : Nat) : (stuckI p n).length ≤ n := by
  unfold stuckI
  rw [List.length_map]
  have := List.length_filter_le p (List.range n)
  simpa using this
/-- a pair of an own slice of integers and no error -/
def OwnIE (w : World) (l : List Int) (e : Ending) (w' : World) : Prop := ∃ v', e = .returned (.tuple #[v', .int .i64 0]) ∧ w'.ownsRow w.heap.size 3 1 v' l.length (l.map iv) ∧ Below w.heap.size w w'
def StuckRel (w : World) (n : Nat) (p : Nat → Bool) (g : Nat) (t i : Value) (wr : World) : Prop := ∃ k : Nat, i = .int .i64 (k : Int) ∧ k + g = n ∧ wr.ownsRow w.heap.size 3 1 t (stuckI p k).length ((stuckI p k).map iv) ∧ Below w.heap.size w wr
set_option maxRecDepth 100000 in
set_option maxHeartbeats 2000000 in
theorem stuck_good (w : World) (v : Value) (rs : List (List Int)) (hv : RowsI w w.heap.size v rs) (hg : GoodG rs) (p : Nat → Bool) (hp : ∀ i, p i = true ↔ Reach rs i i) :
    Calls Try.prog 9 #[v] w (OwnIE w (stuckI p rs.length)) := by
  obtain ⟨A, n, c, vs, rfl, hN, h1, h2, h3, h4⟩ := id hv
  have hn64 := hg.len
  have HC := Lib.hid (check_ring w (.slice A n c) w.heap.size rs hv (by omega) fun r hr => by have := hg.row hr; omega)
  have Hv := Lib.hid hv
  have HN := Lib.hid hN
  have Hg := Lib.hid hg
  have Hp := Lib.hid hp
  rw [hN] at hn64 ⊢
  obtain ⟨j0, hj, hy0, hy1, hy2⟩ := info_parts info_int
  have hck := Lib.hid hg.check
  clear hv hN hg hp h1 h2 h3 h4
  go_enter Try.func9, Try.ntmps9
  go_wp2_with fail
  refine HC.out.mono ?_
  rintro e w' ⟨rfl, rfl⟩
  rw [hck.out]
  clear HC hck
  go_wp2_with fail
  go_loopg [5, 14] n (fun g t i wr => StuckRel w n p g t i wr)
  case atStart => exact ⟨0, rfl, by omega, (show w.ownsRow w.heap.size 3 1 (.slice none 0 0) 0 [] from World.ownsRow_nil _ _ _ _), Below.refl _ _⟩
  case round =>
    obtain ⟨k, rfl, hkg, hown, hb⟩ := hrel
    have Hown := Lib.hid hown
    have hsl := stuckI_len p k
    have hzr := hb.size
    clear hown
    by_cases hlt : k < n
    · have hlt' : (k : Int) < (n : Int) := by omega
      have HS := Lib.hid (steps_any wr (.slice A n c) k rs ((Hv.out.below hb).more hzr) (by rw [HN.out]; exact hlt) Hg.out.len Hg.out.ok Hg.out.size)
      go_wp2_with fail
      refine HS.out.mono ?_
      rintro e w1 ⟨g, sl, rfl, hgr, hB, hsll, hre, hb1⟩
      rw [HN.out]
      have hpk : sl[k]? = some (p k) := by
        have hl : k < sl.length := by rw [hsll, HN.out]; exact hlt
        rw [List.getElem?_eq_getElem hl]
        congr 1
        rw [Bool.eq_iff_iff, Hp.out k, ← hre k, List.getElem?_eq_getElem hl]
        simp
      have hcb := hB.cell k (.bool (p k)) (bools_at hpk)
      have Hown1 := Lib.hid (own_below Hown.out hb1 (Nat.le_refl _))
      have hbw1 := hb.trans (hb1.mono hzr)
      have hz1 := hbw1.size
      have hbig : (stuckI p k).length + 1 ≤ maxLen := by unfold maxLen; omega
      have Hsn := Lib.hid (stuckI_snoc p k)
      obtain ⟨ln, hln⟩ : ∃ ln, ln = (stuckI p k).length := ⟨_, rfl⟩
      rw [← hln] at hsl hbig Hown1
      have Hln := Lib.hid hln
      obtain ⟨At, ct, rfl, _, _, _⟩ := own_rd Hown1.out
      clear HS hpk hre hsll hB hln
      cases hpp : p k with
      | true =>
        rw [hpp] at hcb Hsn
        have Hpp := Lib.hid hpp
        clear hpp
        go_wp2_with (at_builtin; refine wpList_push rfl (.tmp 23) (.tmp 25) 22 rfl w.heap.size 3 j0 (.int .i64 0) 1 8 Try.underlying22 hj hy0 hy1 hy2 rfl (by omega) _ ln _ rfl Hown1.out [_] rfl rfl (by simp [Value.oneCell']) hbig (by omega) hz1 ?_; intro v6 w6 hn6 hb6 _)
        go_roundg (n - (k + 1))
        case measure => omega
        case rel => exact ⟨k + 1, by go_num, by omega, by rw [Hsn.out]; simp only [if_true, List.length_append, List.map_append, List.length_singleton, ← Hln.out]; exact hn6, hbw1.trans hb6⟩
      | false =>
        rw [hpp] at hcb Hsn
        have Hpp := Lib.hid hpp
        clear hpp
        go_wp2_with fail
        go_roundg (n - (k + 1))
        case measure => omega
        case rel => exact ⟨k + 1, by go_num, by omega, by rw [Hsn.out]; simp only [Bool.false_eq_true, if_false, List.append_nil, ← Hln.out]; exact Hown1.out, hbw1⟩
    · obtain rfl : k = n := by omega
      have hlt' : ¬ (k : Int) < (k : Int) := by omega
      obtain ⟨ln, hln⟩ : ∃ ln, ln = (stuckI p k).length := ⟨_, rfl⟩
      rw [← hln] at Hown
      have Hln := Lib.hid hln
      clear hln
      obtain ⟨At, ct, rfl, _, _, _⟩ := own_rd Hown.out
      have HP := Lib.hid (show OwnIE w (stuckI p k) (.returned (.tuple #[.slice At ln ct, .int .i64 0])) wr from ⟨_, rfl, by rw [← Hln.out]; exact Hown.out, hb⟩)
      go_wp2_with fail
      go_ret2
      exact HP.out
set_option maxRecDepth 100000 in
set_option maxHeartbeats 2000000 in
theorem stuck_bad (w : World) (v : Value) (rs : List (List Int)) (hv : RowsI w w.heap.size v rs) (hn : rs.length ≤ 140737488355328) (hl : ∀ r ∈ rs, r.length ≤ 140737488355328) (hc : checkR rs ≠ 0) :
    Calls Try.prog 9 #[v] w fun e w' => e = .returned (.tuple #[.slice none 0 0, .int .i64 ((checkR rs : Nat) : Int)]) ∧ w = w' := by
  obtain ⟨A, n, c, vs, rfl, h0, h1, h2, h3, h4⟩ := id hv
  have HC := Lib.hid (check_ring w (.slice A n c) w.heap.size rs hv hn hl)
  obtain ⟨q, hq⟩ : ∃ q, q = checkR rs := ⟨_, rfl⟩
  rw [← hq] at hc HC ⊢
  clear hv h0 h1 h2 h3 h4 hq hn hl
  have hq0 : ((q : Int) == 0) = false := by simpa using hc
  have hq1 : ((q : Int) != 0) = true := by simpa using hc
  go_enter Try.func9, Try.ntmps9
  go_wp2_with fail
  refine HC.out.mono ?_
  rintro e w' ⟨rfl, rfl⟩
  clear HC
  go_wp2_with fail
  go_ret2
  exact ⟨rfl, rfl⟩
end Go.Proofs.Ytgmjeanoohmdlaa
