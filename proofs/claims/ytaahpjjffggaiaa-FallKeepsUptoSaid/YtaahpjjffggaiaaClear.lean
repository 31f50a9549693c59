/- clear(s[k:]) on a row of the call's own, and what is left of it. Conditions: those typed. -/
import Derived.Test.YtaahpjjffggaiaaWords
import Derived.Lib.SliceRun
import Derived.Lib.LazyBuf
namespace Go.Proofs.Ytaahpjjffggaiaa
open Go.RowKit Go.Gy
set_option linter.unusedVariables false
section
variable {base g n cap size : Nat} {e : TypeId}
theorem own_cut {w : World} {xs : List Value} (h : w.ownsRow base e size (.slice (some ⟨g, 0, none⟩) n cap) n xs) {k : Nat} (hk : k ≤ n) : w.ownsRow base e size (.slice (some ⟨g, 0, none⟩) k cap) k (xs.take (k * size)) := by
  obtain ⟨hl, ⟨hv, _⟩ | ⟨g', cap', cur, hv, hg, hh, hnc, hcm, hcs, htk⟩⟩ := h
  · cases hv
  · have hle : k * size ≤ n * size := Nat.mul_le_mul_right _ hk
    injection hv with hv1 _ hv3
    injection hv1 with hv1
    injection hv1 with hv1
    subst hv1 hv3
    refine ⟨by rw [List.length_take, hl]; omega, .inr ⟨g, cap, cur, rfl, hg, hh, by omega, hcm, hcs, ?_⟩⟩
    rw [← htk, List.take_take, Nat.min_eq_left hle]
theorem own_setCells : ∀ (vs : List Value) (o : Nat) (w : World) (xs : List Value), w.ownsRow base e size (.slice (some ⟨g, 0, none⟩) n cap) n xs → ∃ xs', (w.setCells g o vs).ownsRow base e size (.slice (some ⟨g, 0, none⟩) n cap) n xs' ∧ ∀ m, m ≤ o → xs'.take m = xs.take m
  | [], _, _, xs, h => ⟨xs, h, fun _ _ => rfl⟩
  | v :: vs, o, w, xs, h => by
    obtain ⟨xs', h1, h2⟩ := own_setCells vs (o + 1) (w.setCell ⟨g, o, none⟩ v) _ (h.stored o v).1
    refine ⟨xs', h1, fun m hm => ?_⟩
    rw [h2 m (by omega)]
    apply List.ext_getElem?
    intro i
    rw [List.getElem?_take, List.getElem?_take]
    split
    · rw [List.getElem?_set, if_neg (by omega)]
    · rfl
theorem run_clear_own {P : Program} (w : World) (t : TypeId) (z : Value) (ht : P.underlying t = some (.slice e)) (hv : ∀ w, (zeroValue e).run P w = .ok z w) (hz : z.cells.size = size) (h1 : ∀ v ∈ z.cells, v.oneCell' = true) (xs : List Value) (k : Nat) (hk : k < n) (h0 : 0 < size)
    (h : w.ownsRow base e size (.slice (some ⟨g, 0, none⟩) n cap) n xs) :
    ∃ w', (∀ ty, (Builtin.clear_ #[t] ty #[.slice (some ⟨g, k * size, none⟩) (n - k) (cap - k)]).run P w = .ok (.tuple #[]) w') ∧ w'.ownsRow base e size (.slice (some ⟨g, 0, none⟩) k cap) k (xs.take (k * size)) ∧ Below base w w' := by
  obtain ⟨L, hL⟩ : ∃ L, L = (Builtin.zeroCells z.cells (n - k)).toList := ⟨_, rfl⟩
  have hLl : L.length = (n - k) * size := by rw [hL]; simp [Builtin.zeroCells, hz]
  have hL1 : ∀ v ∈ L, v.oneCell' = true := by
    intro v hv'
    rw [hL] at hv'
    simp only [Builtin.zeroCells, Array.toList_map, List.mem_map] at hv'
    obtain ⟨i, _, rfl⟩ := hv'
    have hi : i % z.cells.size < z.cells.size := Nat.mod_lt _ (by omega)
    rw [getElem!_pos z.cells _ hi]
    exact h1 _ (Array.getElem_mem hi)
  have hxl := h.1
  have hst := run_storeCells_cells (P := P) g (k * size) L 0 w (fun j hj => by
      rw [h.cellAt (k * size + 0 + j) (by
        have : k * size + (n - k) * size = n * size := by rw [← Nat.add_mul]; congr 1; omega
        omega)]
      rw [List.getElem?_eq_getElem (by
        have : k * size + (n - k) * size = n * size := by rw [← Nat.add_mul]; congr 1; omega
        omega)]
      rfl) (fun j _ => h.frozenAt _) hL1
  obtain ⟨xs', ho, hx⟩ := own_setCells L (k * size) w xs h
  refine ⟨w.setCells g (k * size) L, ?_, ?_, ?_⟩
  · intro ty
    obtain ⟨m, hm⟩ : ∃ m, n - k = m + 1 := ⟨n - k - 1, by omega⟩
    rw [hm] at hL ⊢
    simp only [Nat.add_zero] at hst
    simp [Builtin.clear_, run_underlying ht, hv, ← hL, hst]
  · rw [← hx _ (Nat.le_refl _)]
    exact own_cut ho (by omega)
  · have hb : base ≤ g := (h.lt g (by simp [Value.ownBlock])).1
    exact Go.below_setCells hb _ _ _ (Below.refl _ _)
end
end Go.Proofs.Ytaahpjjffggaiaa
