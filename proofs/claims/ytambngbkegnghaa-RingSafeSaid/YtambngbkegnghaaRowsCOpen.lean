/- Lists of lists of cells as arguments. Conditions: those typed. -/
import Derived.Test.YtambngbkegnghaaIntsOpen
import Derived.Test.YtambngbkegnghaaSafeA
namespace Go.Proofs.Ytambngbkegnghaa
open Go.RowKit Go.Gy Go.WideShapes
set_option linter.unusedVariables false
def wfC (c : Cell) : Prop := wfI .i64 c.1 ∧ wfI .i64 c.2
theorem opens_cell (W : World) : Opens Try.prog W 39 fun cs _ => ∃ c : Cell, cs = encC c ∧ wfC c := by
  refine (opens_struct2 Try.underlying39 (by kernel_rfl) ⟨rfl, by kernel_rfl⟩ ⟨rfl, by kernel_rfl⟩ (field_int Try.underlying3) (field_int Try.underlying3)).mono ?_
  rintro cs b ⟨v0, v1, _, _, rfl, ⟨n0, rfl, w0⟩, ⟨n1, rfl, w1⟩, _, _⟩
  exact ⟨(n0, n1), rfl, w0, w1⟩
def CellsArg (W : World) (v : Value) : Prop := ∃ l : List Cell, SlC W W.heap.size v l
theorem sliceOf_cells {W : World} {cs : List Value} {b : Nat} (h : SliceOf W 2 16 (fun cs _ => ∃ c : Cell, cs = encC c ∧ wfC c) cs b) : ∃ v, cs = [v] ∧ CellsArg W v := by
  have h' := h
  obtain ⟨A, n, c, xs, hcs, _⟩ := h'
  refine ⟨.slice A n c, hcs, ?_⟩
  rw [hcs] at h
  obtain ⟨A', n', c', xs', he, h1, h2, h3, h4, h5, h6, h7, h8⟩ := SliceOf.arg (v := .slice A n c) (enc := encC) (Q := wfC) rfl (by omega) h fun x m ⟨z, h1, h2⟩ => ⟨z, h1, h2⟩
  exact ⟨xs', A', n', c', he, h1, h2, h6, h7⟩
theorem lists_ofC : ∀ (ys : List (Value × List Cell)), ys.flatMap (fun a => [a.1]) = ys.map Prod.fst
  | [] => rfl
  | y :: ys => by simp [lists_ofC ys]
def CellRowsArg (W : World) (v : Value) (b : Nat) : Prop := ∃ rs : List (List Cell), RowsC W W.heap.size v rs ∧ rs.length < b ∧ rs.length * 24 ≤ reachBytes
theorem sliceOf_cellrows {W : World} {v : Value} {b : Nat} (hv : v.cells.toList = [v]) (h : SliceOf W 1 24 (SliceOf W 2 16 fun cs _ => ∃ c : Cell, cs = encC c ∧ wfC c) v.cells.toList b) : CellRowsArg W v b := by
  have h2 : SliceOf W 1 24 (fun cs _ => ∃ v, cs = [v] ∧ CellsArg W v) v.cells.toList b := by
    obtain ⟨A, n, c, xs, e0, e1, e2, e3, e4, e5, e6, e7, e8⟩ := h
    refine ⟨A, n, c, xs, e0, e1, e2, e3, e4, e5, e6, fun x hx => ?_, e8⟩
    obtain ⟨g1, m, g2, g3⟩ := e7 x hx
    obtain ⟨u, g4, g5⟩ := sliceOf_cells g2
    exact ⟨g1, m, ⟨u, g4, g5⟩, g3⟩
  obtain ⟨A, n, c, ys, rfl, e1, e2, e3, e4, e5, e6, e7, e8⟩ := SliceOf.arg (α := Value × List Cell) (enc := fun a => [a.1]) (Q := fun a => SlC W W.heap.size a.1 a.2) hv (by omega) h2 fun x m ⟨u, g1, r, g2⟩ => ⟨(u, r), g1, g2⟩
  rw [lists_ofC] at e7
  refine ⟨ys.map Prod.snd, ⟨A, n, c, ys.map Prod.fst, rfl, by simpa using e1, e2, e6, e7, by simp, fun i u r hu hr => ?_⟩, by rw [List.length_map]; omega, by rw [List.length_map]; omega⟩
  rw [List.getElem?_map] at hu hr
  cases hy : ys[i]? with
  | none => rw [hy] at hu; cases hu
  | some y =>
    rw [hy] at hu hr
    simp at hu hr
    subst hu hr
    exact e8 y (List.mem_of_getElem? hy)
set_option maxRecDepth 100000 in
theorem arg_cellrows {H : Type} {enc : TypeId × Value → H} {W : World} {v : Value} {d : DataW H} {p : List MemPlace} {r : Go.Reach} {b0 : Nat} (hv : Value.okWide Try.prog W r b0 45 v) (h : DataW.Trod enc Try.prog W 0 (fun _ => true) true 45 v d p)
    (hw : ∀ m ∈ d.weights Try.prog 45, m ≤ reachBytes) : CellRowsArg W v (bulk d) := by
  obtain ⟨a, n, c, rfl⟩ := okWide_slice Try.underlying45 hv
  exact sliceOf_cellrows rfl (view (opens_slice Try.underlying45 (by kernel_rfl) (by omega) (by kernel_rfl) (opens_slice Try.underlying24 (by kernel_rfl) (by omega) (by kernel_rfl) (opens_cell W))) h hw)
end Go.Proofs.Ytambngbkegnghaa
