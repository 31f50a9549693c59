/- Slices of integers: words. No condition but those typed. -/
import Derived.Test.YtpnefacignalpaaWords
import Derived.Test.YtpnefacignalpaaRows
import Derived.Lib.SliceRun
namespace Go.Proofs.Ytpnefacignalpaa
open Go.RowKit Go.Gy
set_option linter.unusedVariables false

abbrev iv (x : Int) : Value := .int .i64 x
/-- The value v reads as the integers r, below block B; several; a slice of them. -/
def SlI (w : World) (B : Nat) (v : Value) (r : List Int) : Prop := ∃ A n c, v = .slice A n c ∧ r.length = n ∧ n ≤ c ∧ (A = none → c = 0) ∧ Rd w B 1 A n (r.map iv)
theorem SlI.below {w w' : World} {B : Nat} {v : Value} {r : List Int} (h : SlI w B v r) (hb : Below B w w') : SlI w' B v r := by
  obtain ⟨A, n, c, h1, h2, h3, h4, h5⟩ := h
  exact ⟨A, n, c, h1, h2, h3, h4, h5.below hb⟩
theorem SlI.more {w : World} {B B' : Nat} {v : Value} {r : List Int} (h : SlI w B v r) (hB : B ≤ B') : SlI w B' v r := by
  obtain ⟨A, n, c, h1, h2, h3, h4, h5⟩ := h
  exact ⟨A, n, c, h1, h2, h3, h4, h5.more hB⟩
theorem SlI.own {w : World} {base n : Nat} {v : Value} {r : List Int} (h : w.ownsRow base 3 1 v n (r.map iv)) : SlI w w.heap.size v r := by
  have hl := h.1
  obtain ⟨A, c, rfl, h1, _, h2⟩ := own_rd h
  exact ⟨A, n, c, rfl, by simpa using hl, h1, fun hA => (own_none h hA).2, h2⟩
def SlIs (w : World) (B : Nat) (vs : List Value) (rs : List (List Int)) : Prop := vs.length = rs.length ∧ ∀ (i : Nat) (v : Value) (r : List Int), vs[i]? = some v → rs[i]? = some r → SlI w B v r
theorem SlIs.below {w w' : World} {B : Nat} {vs : List Value} {rs : List (List Int)} (h : SlIs w B vs rs) (hb : Below B w w') : SlIs w' B vs rs := ⟨h.1, fun i v r h1 h2 => (h.2 i v r h1 h2).below hb⟩
theorem SlIs.more {w : World} {B B' : Nat} {vs : List Value} {rs : List (List Int)} (h : SlIs w B vs rs) (hB : B ≤ B') : SlIs w B' vs rs := ⟨h.1, fun i v r h1 h2 => (h.2 i v r h1 h2).more hB⟩
def RowsI (w : World) (B : Nat) (v : Value) (rs : List (List Int)) : Prop := ∃ A n c vs, v = .slice A n c ∧ rs.length = n ∧ n ≤ c ∧ (A = none → c = 0) ∧ Rd w B 1 A n vs ∧ SlIs w B vs rs
theorem RowsI.below {w w' : World} {B : Nat} {v : Value} {rs : List (List Int)} (h : RowsI w B v rs) (hb : Below B w w') : RowsI w' B v rs := by
  obtain ⟨A, n, c, vs, h1, h2, h3, h4, h5, h6⟩ := h
  exact ⟨A, n, c, vs, h1, h2, h3, h4, h5.below hb, h6.below hb⟩
theorem RowsI.more {w : World} {B B' : Nat} {v : Value} {rs : List (List Int)} (h : RowsI w B v rs) (hB : B ≤ B') : RowsI w B' v rs := by
  obtain ⟨A, n, c, vs, h1, h2, h3, h4, h5, h6⟩ := h
  exact ⟨A, n, c, vs, h1, h2, h3, h4, h5.more hB, h6.more hB⟩
theorem iv_one (r : List Int) : ∀ u ∈ r.map iv, u.oneCell' = true := by
  intro u hu
  obtain ⟨x, _, rfl⟩ := List.mem_map.1 hu
  rfl
theorem info_int : (Try.prog.info? 3).map (fun i => (i.zero, i.size, i.bytes)) = some (some (.int .i64 0), 1, 8) := by kernel_rfl

end Go.Proofs.Ytpnefacignalpaa
