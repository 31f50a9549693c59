/- grid.sorted: the cells of lists, sorted, once each. Conditions: those typed. -/
import Derived.Test.YtaahpjjffggaiaaCompact
import Derived.Test.YtaahpjjffggaiaaCellSl
import Derived.Test.YtaahpjjffggaiaaGridSort
namespace Go.Proofs.Ytaahpjjffggaiaa
open Go.RowKit Go.Gy
set_option linter.unusedVariables false
/-- a row of the call's own with the cells l -/
def OwnC (base : Nat) (l : List Cell) (w : World) (e : Ending) (w' : World) : Prop := ∃ A n c, e = .returned (.slice A n c) ∧ l.length = n ∧ w'.ownsRow base 24 2 (.slice A n c) n (l.flatMap encC) ∧ Below base w w'
set_option maxRecDepth 100000 in
set_option maxHeartbeats 2000000 in
theorem sorted_any (w : World) (A : Option Addr) (m c : Nat) (vs : List Value) (rs : List (List Cell)) (hm : vs.length = m) (hm1 : m ≤ 1000) (hr : Rd w w.heap.size 1 A m vs) (hs : SlsC w w.heap.size vs rs) (hb : rs.flatten.length ≤ 100000) :
    Calls Try.prog 71 #[.slice A m c] w (OwnC w.heap.size (sortC rs.flatten) w) := by
  have HC := Lib.hid (concat_cells w A m c vs rs hm hm1 hr hs hb)
  clear hm hr hs
  go_enter Try.func71, Try.ntmps71
  go_wp2_with fail
  refine HC.out.mono ?_
  rintro e w1 ⟨v1, rfl, hown1, hb1⟩
  obtain ⟨A1, c1, rfl, _, _, _⟩ := own_rd hown1
  have HS := Lib.hid (sort_order w1 w.heap.size _ c1 A1 rs.flatten rfl (by omega) hb1.size hown1)
  obtain ⟨n, hn⟩ : ∃ n, n = rs.flatten.length := ⟨_, rfl⟩
  rw [← hn] at HS hb
  have Hn := Lib.hid hn
  have Hb1 := Lib.hid hb1
  rw [← hn]
  clear HC hown1 hb1 hn
  go_wp2_with fail
  refine HS.out.mono ?_
  rintro e w2 ⟨rfl, l2, hp2, hs2, hown2, hb2⟩
  have hl2 : l2.length = n := by rw [hp2.length_eq]; exact Hn.out.symm
  have HK := Lib.hid (compact_cells w2 w.heap.size n c1 A1 l2 hl2 hb (Nat.le_trans Hb1.out.size hb2.size) hown2)
  have e2 : cpt l2 = sortC rs.flatten := by
    rw [cpt_sorted hs2]
    exact sort_unique _ _ (sorted_sortC _) (sorted_sortC _) fun x => by rw [mem_sortC, mem_sortC]; exact hp2.mem_iff
  unfold CptPost at HK
  rw [e2] at HK
  have Hb2 := Lib.hid (Hb1.out.trans hb2)
  clear HS hown2 hb2 hp2 hs2 e2 hl2
  go_wp2_with fail
  refine HK.out.mono ?_
  rintro e w3 ⟨A3, n3, c3, rfl, h1, h2, h3⟩
  have HP := Lib.hid (show OwnC w.heap.size (sortC rs.flatten) w (.returned (.slice A3 n3 c3)) w3 from ⟨A3, n3, c3, rfl, h1, h2, Hb2.out.trans h3⟩)
  clear h1 h2 h3 HK
  go_wp2_with fail
  go_ret
  exact HP.out
end Go.Proofs.Ytaahpjjffggaiaa
