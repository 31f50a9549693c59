/- What a sort does to a row of the call's own, in words of rows. Conditions: those typed. -/
import Derived.Test.YtaahpjjffggaiaaSortPlain
import Derived.Shelf.SlSortCmp.WholeK
namespace Go.Proofs.Ytaahpjjffggaiaa
open Go.RowKit Go.Gy Go.Sort
set_option linter.unusedVariables false
section
variable {α : Type} [Inhabited α] {enc : α → List Value} {k : Nat}
theorem flatK_list (hk : ∀ x, (enc x).length = k) (h0 : 0 < k) (d : Array α) : (flatK enc k d).toList = d.toList.flatMap enc := by
  apply List.ext_getElem?
  intro t
  have hl : (d.toList.flatMap enc).length = d.size * k := by rw [flat_length hk]; simp
  by_cases ht : t < d.size * k
  · have hq : t / k < d.size := (Nat.div_lt_iff_lt_mul h0).2 ht
    have hm : t % k < k := Nat.mod_lt _ h0
    have h1 := get_flatK enc k d t ht
    have h2 : (flatK enc k d).toList[t]? = some ((flatK enc k d)[t]!) := by
      rw [Array.getElem?_toList, getElem!_pos _ t (by simpa using ht)]
      exact Array.getElem?_eq_getElem (by simpa using ht)
    rw [h2, h1]
    have h3 : d.toList[t / k]? = some d[t / k]! := by
      rw [Array.getElem?_toList, getElem!_pos d (t / k) hq]; exact Array.getElem?_eq_getElem hq
    obtain ⟨x, hx⟩ : ∃ x, x = d[t / k]! := ⟨_, rfl⟩
    rw [← hx] at h3 ⊢
    have hml : t % k < (enc x).length := by rw [hk]; exact hm
    have h4 : (enc x)[t % k]? = some ((enc x)[t % k]!) := by
      rw [getElem!_pos (enc x) (t % k) hml]; exact List.getElem?_eq_getElem hml
    have h5 := flat_get d.toList hk (t / k) _ h3 (t % k) _ h4
    rw [show t / k * k + t % k = t by rw [Nat.mul_comm]; exact Nat.div_add_mod t k] at h5
    exact h5.symm
  · rw [List.getElem?_eq_none (by simpa using ht), List.getElem?_eq_none (by omega)]
theorem holds_own (hk : ∀ x, (enc x).length = k) (h0 : 0 < k) {w : World} {base g cap : Nat} {e : TypeId} {d : Array α} (h : w.ownsRow base e k (.slice (some ⟨g, 0, none⟩) d.size cap) d.size (d.toList.flatMap enc)) : HoldsK enc k w g 0 d := by
  intro j hj
  rw [size_flatK] at hj
  refine ⟨?_, by rw [Nat.zero_add]; exact h.frozenAt j⟩
  rw [Nat.zero_add, h.cellAt j hj, ← flatK_list hk h0, Array.getElem?_toList, getElem!_pos _ j (by simpa using hj)]
  exact Array.getElem?_eq_getElem (by simpa using hj)
theorem sort_own (hk : ∀ x, (enc x).length = k) (h0 : 0 < k) {w : World} {base g cap : Nat} {e : TypeId} {d d' : Array α} (h : w.ownsRow base e k (.slice (some ⟨g, 0, none⟩) d.size cap) d.size (d.toList.flatMap enc)) (hs : d'.size = d.size) (hb : base ≤ w.heap.size) (m : Nat) (os : Array Obj) :
    (sortWorldK enc k w g 0 m d' os).ownsRow base e k (.slice (some ⟨g, 0, none⟩) d.size cap) d.size (d'.toList.flatMap enc) ∧ Below base w (sortWorldK enc k w g 0 m d' os) := by
  obtain ⟨hl, ⟨hv, _⟩ | ⟨g', cap', cur, hv, hg, hh, hnc, hcm, hcs, htk⟩⟩ := h
  · cases hv
  · injection hv with hv1 _ hv3
    injection hv1 with hv1
    injection hv1 with hv1
    subst hv1 hv3
    have hgl : g < w.heap.size := by
      rcases Nat.lt_or_ge g w.heap.size with hlt | hge
      · exact hlt
      · rw [Array.getElem?_eq_none hge] at hh; cases hh
    have hsz : (sortWorldK enc k w g 0 m d' os).heap.size = w.heap.size + os.size := by
      simp [sortWorldK, grow, putRowK, putRow, mapBlock]
    have hblk : ∀ q, q < w.heap.size → (sortWorldK enc k w g 0 m d' os).heap[q]? = if g = q then some (.cells (putCells id 0 (flatK enc k d') cur) e (0, 0)) else w.heap[q]? := by
      intro q hq
      show (((w.heap.modify g (onCells (putCells id 0 (flatK enc k d')))) ++ os))[q]? = _
      rw [Array.getElem?_append_left (by simpa using hq), Array.getElem?_modify]
      by_cases hgq : g = q
      · subst hgq
        rw [if_pos rfl, if_pos rfl, hh]
        rfl
      · rw [if_neg hgq, if_neg hgq]
    refine ⟨⟨?_, .inr ⟨g, cap, putCells id 0 (flatK enc k d') cur, rfl, hg, ?_, hnc, hcm, ?_, ?_⟩⟩, ⟨rfl, rfl, rfl, by rw [hsz]; omega, fun q hq => ?_⟩⟩
    · rw [flat_length hk]; simp [hs]
    · rw [hblk g hgl, if_pos rfl]
    · simp [putCells, hcs]
    · rw [← flatK_list hk h0]
      have hle : d.size * k ≤ cur.size := by rw [hcs]; exact Nat.mul_le_mul_right _ hnc
      apply List.ext_getElem?
      intro t
      rw [List.getElem?_take]
      by_cases ht : t < d.size * k
      · rw [if_pos ht, Array.getElem?_toList, Array.getElem?_toList]
        have ht' : t < (flatK enc k d').size := by rw [size_flatK, hs]; exact ht
        have h1 : (putCells id 0 (flatK enc k d') cur)[t]? = some ((flatK enc k d')[t]!) := by
          simp only [putCells, Array.getElem?_mapIdx]
          rw [Array.getElem?_eq_getElem (by omega)]
          simp only [Option.map_some, Nat.sub_zero, Nat.zero_add, id]
          rw [if_pos ⟨Nat.zero_le _, ht'⟩]
        rw [h1, getElem!_pos _ t ht']
        exact (Array.getElem?_eq_getElem ht').symm
      · rw [if_neg ht, List.getElem?_eq_none (by simp [hs]; omega)]
    · rw [hblk q (by omega), if_neg (by omega)]
end
end Go.Proofs.Ytaahpjjffggaiaa
