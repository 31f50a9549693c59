/- Polygons as arguments. Conditions: those typed. -/
import Derived.Test.YthmgcbpmfipfiaaDoorLevel
namespace Go.Proofs.YthmgcbpmfipfiaaDoor
open Go.RowKit Go.Gy Go.WideShapes
set_option linter.unusedVariables false
def PolysArg (W : World) (v : Value) (b : Nat) : Prop := ∃ L : List (List P2), SlPs W W.heap.size v L ∧ (∀ l ∈ L, (∀ z ∈ l, z.le b) ∧ l.length < b) ∧ L.length < b
theorem zip_of {n : Nat} (R : Nat → List P2 → Prop) (h : ∀ i, i < n → ∃ l, R i l) : ∃ L : List (List P2), L.length = n ∧ ∀ i l, L[i]? = some l → R i l := list_of n R h
set_option maxRecDepth 100000 in
theorem arg_polys {H : Type} {enc : TypeId × Value → H} {W : World} {v : Value} {d : DataW H} {p : List MemPlace} {r : Reach} {b0 : Nat} (hv : Value.okWide Tryd.prog W r b0 74 v) (h : DataW.Trod enc Tryd.prog W 0 (fun _ => true) true 74 v d p)
    (hw : ∀ m ∈ d.weights Tryd.prog 74, m ≤ reachBytes) : PolysArg W v (bulk d) := by
  obtain ⟨a, n, c, rfl⟩ := okWide_slice Tryd.underlying74 hv
  have hs := view (opens_slice Tryd.underlying74 (show Tryd.prog.cellsOf 68 = 1 by kernel_rfl) (by omega) (show Tryd.prog.bytesOf 68 = 24 by kernel_rfl) (opens_pts W)) h hw
  obtain ⟨A, n', c', xs, hcs, h1, h2, h3, h4, h5, h6, h7, g, o, h8, h9, h10⟩ := hs
  obtain ⟨rfl, rfl, rfl⟩ : a = A ∧ n = n' ∧ c = c' := by
    have : [Value.slice a n c] = [Value.slice A n' c'] := hcs
    injection this with h1 _
    injection h1 with h1 h2 h3
    exact ⟨h1, h2, h3⟩
  obtain ⟨vs, hvl, hvs⟩ := list_of n (fun i u => xs[i]? = some [u] ∧ PtsArg W u (bulk d)) fun i hi => by
    have hx : xs[i]? = some (xs[i]'(by omega)) := List.getElem?_eq_getElem (by omega)
    obtain ⟨_, m, ⟨u, hu, l, q1, q2, q3⟩, hm⟩ := h7 _ (List.mem_of_getElem? hx)
    exact ⟨u, by rw [hx, hu], l, q1, fun z hz => (q2 z hz).more (by omega), by omega⟩
  obtain ⟨L, hLl, hLs⟩ := zip_of (n := n) (fun i l => ∀ u, vs[i]? = some u → SlP W W.heap.size u l ∧ (∀ z ∈ l, z.le (bulk d)) ∧ l.length < bulk d) fun i hi => by
    have hx : vs[i]? = some (vs[i]'(by omega)) := List.getElem?_eq_getElem (by omega)
    obtain ⟨_, l, q1, q2, q3⟩ := hvs i _ hx
    exact ⟨l, fun u hu => by rw [hx] at hu; cases hu; exact ⟨q1, q2, q3⟩⟩
  refine ⟨L, ⟨a, n, c, vs, rfl, hvl, hLl, ⟨by rw [hvl, Nat.mul_one], fun h0 => ⟨g, o, h9 h0, h8 h0, fun j u hu => ?_⟩⟩, fun k v' l hk hl => (hLs k l hl v' hk).1⟩, fun l hl => ?_, by rw [hLl]; omega⟩
  · obtain ⟨hx, _⟩ := hvs j u hu
    have := h10 j [u] hx 0 u rfl
    simpa using this
  · obtain ⟨i, hi, rfl⟩ := List.getElem_of_mem hl
    have hx : vs[i]? = some (vs[i]'(by omega)) := List.getElem?_eq_getElem (by omega)
    exact (hLs i _ (List.getElem?_eq_getElem hi) _ hx).2
end Go.Proofs.YthmgcbpmfipfiaaDoor
