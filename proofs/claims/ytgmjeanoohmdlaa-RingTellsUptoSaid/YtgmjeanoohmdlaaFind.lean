/- ring.Find. Conditions: those typed. -/
import Derived.Test.YtgmjeanoohmdlaaShortest
namespace Go.Proofs.Ytgmjeanoohmdlaa
open Go.RowKit Go.Gy
set_option linter.unusedVariables false
theorem stuckI_mem {p : Nat → Bool} {n : Nat} {x : Int} (h : x ∈ stuckI p n) : ∃ a : Nat, x = (a : Int) ∧ a < n ∧ p a = true := by
  unfold stuckI at h
  obtain ⟨a, ha, rfl⟩ := List.mem_map.1 h
  obtain ⟨h1, h2⟩ := List.mem_filter.1 ha
  exact ⟨a, rfl, List.mem_range.1 h1, h2⟩
theorem mem_stuckI {p : Nat → Bool} {n a : Nat} (h : a < n) (hp : p a = true) : (a : Int) ∈ stuckI p n := by
  unfold stuckI
  exact List.mem_map.2 ⟨a, List.mem_filter.2 ⟨List.mem_range.2 h, hp⟩, rfl⟩
def NoneIE (w : World) (c : Int) (e : Ending) (w' : World) : Prop := e = .returned (.tuple #[.slice none 0 0, .int .i64 c]) ∧ Below w.heap.size w w'
set_option maxRecDepth 100000 in
set_option maxHeartbeats 2000000 in
theorem find_none (w : World) (v : Value) (rs : List (List Int)) (hv : RowsI w w.heap.size v rs) (hg : GoodG rs) (p : Nat → Bool) (hp : ∀ i, p i = true ↔ Reach rs i i) (h0 : stuckI p rs.length = []) :
    Calls Try.prog 6 #[v] w (NoneIE w 4) := by
  have HS := Lib.hid (stuck_good w v rs hv hg p hp)
  rw [h0] at HS
  obtain ⟨A, n, c, vs, rfl, _⟩ := hv
  clear hg hp h0
  go_enter Try.func6, Try.ntmps6
  go_wp2_with fail
  refine HS.out.mono ?_
  rintro e w1 ⟨v1, rfl, hown, hb1⟩
  obtain ⟨A1, c1, rfl, _, _, _⟩ := own_rd hown
  have HP := Lib.hid (show NoneIE w 4 (.returned (.tuple #[.slice none 0 0, .int .i64 4])) w1 from ⟨rfl, hb1⟩)
  clear hown hb1 HS
  go_wp2_with fail
  go_ret2
  exact HP.out
set_option maxRecDepth 100000 in
set_option maxHeartbeats 2000000 in
theorem find_some (w : World) (v : Value) (rs : List (List Int)) (hv : RowsI w w.heap.size v rs) (hg : GoodG rs) (p : Nat → Bool) (hp : ∀ i, p i = true ↔ Reach rs i i) (a : Nat) (t : List Int) (hs : stuckI p rs.length = (a : Int) :: t)
    (d : Nat) (hd1 : 1 ≤ d) (hdn : d ≤ rs.length) (hw : Way rs a d a) (hmin : ∀ d', d' < d → ¬ Way rs a d' a) :
    Calls Try.prog 6 #[v] w (OwnIE w ((a : Int) :: wayK rs (farK rs a d) (d - 1) a)) := by
  have ha : a < rs.length := by
    obtain ⟨b, h1, h2, _⟩ := stuckI_mem (p := p) (n := rs.length) (x := (a : Int)) (by rw [hs]; simp)
    omega
  have HS := Lib.hid (stuck_good w v rs hv hg p hp)
  rw [hs] at HS
  have hH := fun w1 (hb : Below w.heap.size w w1) => shortest_any w1 v rs ((hv.below hb).more hb.size) hg a d ha hd1 hdn hw hmin
  have HH := Lib.hid hH
  obtain ⟨A, n, c, vs, rfl, _⟩ := hv
  clear hg hp hs hH hd1 hdn hw hmin ha
  go_enter Try.func6, Try.ntmps6
  go_wp2_with fail
  refine HS.out.mono ?_
  rintro e w1 ⟨v1, rfl, hown, hb1⟩
  obtain ⟨ln, hln⟩ : ∃ ln, ln = t.length := ⟨_, rfl⟩
  have hl1 : ((a : Int) :: t).length = ln + 1 := by rw [hln]; rfl
  rw [hl1] at hown
  obtain ⟨g1, c1, rfl, _, _, _⟩ := own_shape hown (by omega)
  have hc0 := hown.cellAt 0 (by omega)
  simp only [List.map_cons, List.getElem?_cons_zero] at hc0
  have HC := Lib.hid (HH.out w1 hb1)
  have hz1 := hb1.size
  have Hb1 := Lib.hid hb1
  clear hown HS hl1 hln HH hb1
  go_wp2_with fail
  refine HC.out.mono ?_
  rintro e w2 ⟨v2, l, rfl, rfl, hown2, hb2⟩
  have HP := Lib.hid (show OwnIE w ((a : Int) :: wayK rs (farK rs a d) (d - 1) a) (.returned (.tuple #[v2, .int .i64 0])) w2 from ⟨v2, rfl, own_mono hown2 hz1, Hb1.out.trans (hb2.mono hz1)⟩)
  obtain ⟨A2, c2, rfl, _, _, _⟩ := own_rd hown2
  clear hown2 hb2 HC
  go_wp2_with fail
  go_ret2
  exact HP.out
set_option maxRecDepth 100000 in
set_option maxHeartbeats 2000000 in
theorem find_bad (w : World) (v : Value) (rs : List (List Int)) (hv : RowsI w w.heap.size v rs) (hn : rs.length ≤ 140737488355328) (hl : ∀ r ∈ rs, r.length ≤ 140737488355328) (hc : checkR rs ≠ 0) :
    Calls Try.prog 6 #[v] w fun e w' => e = .returned (.tuple #[.slice none 0 0, .int .i64 ((checkR rs : Nat) : Int)]) ∧ w = w' := by
  have HS := Lib.hid (stuck_bad w v rs hv hn hl hc)
  obtain ⟨A, n, c, vs, rfl, _⟩ := hv
  obtain ⟨q, hq⟩ : ∃ q, q = checkR rs := ⟨_, rfl⟩
  rw [← hq] at hc HS ⊢
  clear hq hn hl
  have hq0 : ((q : Int) == 0) = false := by simpa using hc
  have hq1 : ((q : Int) != 0) = true := by simpa using hc
  go_enter Try.func6, Try.ntmps6
  go_wp2_with fail
  refine HS.out.mono ?_
  rintro e w' ⟨rfl, rfl⟩
  clear HS
  go_wp2_with fail
  go_ret2
  exact ⟨rfl, rfl⟩
set_option maxRecDepth 100000 in
set_option maxHeartbeats 2000000 in
theorem order_bad (w : World) (v : Value) (rs : List (List Int)) (hv : RowsI w w.heap.size v rs) (hn : rs.length ≤ 140737488355328) (hl : ∀ r ∈ rs, r.length ≤ 140737488355328) (hc : checkR rs ≠ 0) :
    Calls Try.prog 14 #[v] w fun e w' => e = .returned (.tuple #[.slice none 0 0, .int .i64 ((checkR rs : Nat) : Int)]) ∧ w = w' := by
  have HS := Lib.hid (stuck_bad w v rs hv hn hl hc)
  obtain ⟨A, n, c, vs, rfl, _⟩ := hv
  obtain ⟨q, hq⟩ : ∃ q, q = checkR rs := ⟨_, rfl⟩
  rw [← hq] at hc HS ⊢
  clear hq hn hl
  have hq0 : ((q : Int) == 0) = false := by simpa using hc
  have hq1 : ((q : Int) != 0) = true := by simpa using hc
  go_enter Try.func14, Try.ntmps14
  go_wp2_with fail
  refine HS.out.mono ?_
  rintro e w' ⟨rfl, rfl⟩
  clear HS
  go_wp2_with fail
  go_ret2
  exact ⟨rfl, rfl⟩
set_option maxRecDepth 100000 in
set_option maxHeartbeats 2000000 in
theorem order_ring (w : World) (v : Value) (rs : List (List Int)) (hv : RowsI w w.heap.size v rs) (hg : GoodG rs) (p : Nat → Bool) (hp : ∀ i, p i = true ↔ Reach rs i i) (h0 : stuckI p rs.length ≠ []) :
    Calls Try.prog 14 #[v] w (NoneIE w 11) := by
  have HS := Lib.hid (stuck_good w v rs hv hg p hp)
  obtain ⟨ln, hln⟩ : ∃ ln, ln = (stuckI p rs.length).length := ⟨_, rfl⟩
  have hl1 : 0 < ln := by rw [hln]; exact List.length_pos_iff.2 h0
  have Hln := Lib.hid hln
  obtain ⟨A, n, c, vs, rfl, _⟩ := hv
  clear hg hp h0 hln
  go_enter Try.func14, Try.ntmps14
  go_wp2_with fail
  refine HS.out.mono ?_
  rintro e w1 ⟨v1, rfl, hown, hb1⟩
  rw [← Hln.out] at hown
  obtain ⟨A1, c1, rfl, _, _, _⟩ := own_rd hown
  have hl2 : (0 : Int) < (ln : Int) := by omega
  have HP := Lib.hid (show NoneIE w 11 (.returned (.tuple #[.slice none 0 0, .int .i64 11])) w1 from ⟨rfl, hb1⟩)
  clear hown hb1 HS
  go_wp2_with fail
  go_ret2
  exact HP.out
end Go.Proofs.Ytgmjeanoohmdlaa
