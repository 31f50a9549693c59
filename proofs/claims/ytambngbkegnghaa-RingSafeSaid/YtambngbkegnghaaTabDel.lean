/- slices.Delete at wishes, one of them. Conditions: those typed. -/
import Derived.Test.YtambngbkegnghaaTabTo
import Derived.Test.YtambngbkegnghaaQueue2
import Derived.Deep.RegionLaw
import Derived.Lib.SliceRun
import Derived.Lib.LazyBuf
namespace Go.Proofs.Ytambngbkegnghaa
open Go.RowKit Go.Gy
set_option linter.unusedVariables false
section
variable {base g n cap size : Nat} {e : TypeId}
def putL : List Value → Nat → List Value → List Value
  | xs, _, [] => xs
  | xs, o, v :: vs => putL (xs.set o v) (o + 1) vs
theorem putL_len : ∀ (vs xs : List Value) (o : Nat), (putL xs o vs).length = xs.length
  | [], _, _ => rfl
  | v :: vs, xs, o => by rw [putL, putL_len vs]; simp
theorem putL_out : ∀ (vs xs : List Value) (o j : Nat), (j < o ∨ o + vs.length ≤ j) → (putL xs o vs)[j]? = xs[j]?
  | [], _, _, _, _ => rfl
  | v :: vs, xs, o, j, h => by
    rw [putL, putL_out vs _ _ _ (by simp at h; omega), List.getElem?_set, if_neg (by simp at h; omega)]
theorem putL_in : ∀ (vs xs : List Value) (o j : Nat), j < vs.length → o + vs.length ≤ xs.length → (putL xs o vs)[o + j]? = vs[j]?
  | [], _, _, _, h, _ => by simp at h
  | v :: vs, xs, o, 0, h, hx => by
    simp at hx
    rw [putL, putL_out vs _ _ _ (by omega), Nat.add_zero, List.getElem?_set, if_pos rfl, if_pos (by omega)]; rfl
  | v :: vs, xs, o, j + 1, h, hx => by
    simp at h hx
    rw [putL, show o + (j + 1) = (o + 1) + j by omega, putL_in vs _ _ _ h (by simp; omega)]; rfl
theorem own_putL : ∀ (vs : List Value) (o : Nat) (w : World) (xs : List Value), w.ownsRow base e size (.slice (some ⟨g, 0, none⟩) n cap) n xs → (w.setCells g o vs).ownsRow base e size (.slice (some ⟨g, 0, none⟩) n cap) n (putL xs o vs)
  | [], _, _, _, h => h
  | v :: vs, o, w, xs, h => own_putL vs (o + 1) (w.setCell ⟨g, o, none⟩ v) _ (h.stored o v).1
theorem run_clear_own2 {P : Program} (w : World) (t : TypeId) (z : Value) (ht : P.underlying t = some (.slice e)) (hv : ∀ w, (zeroValue e).run P w = .ok z w) (hz : z.cells.size = size) (h1 : ∀ v ∈ z.cells, v.oneCell' = true) (xs : List Value) (k : Nat) (hk : k < n) (h0 : 0 < size)
    (h : w.ownsRow base e size (.slice (some ⟨g, 0, none⟩) n cap) n xs) :
    ∃ w', (∀ ty, (Builtin.clear_ #[t] ty #[.slice (some ⟨g, k * size, none⟩) (n - k) (cap - k)]).run P w = .ok (.tuple #[]) w') ∧ w'.ownsRow base e size (.slice (some ⟨g, 0, none⟩) k cap) k (xs.take (k * size)) ∧ w.grownBy w' (some g) := by
  obtain ⟨L, hL⟩ : ∃ L, L = (Builtin.zeroCells z.cells (n - k)).toList := ⟨_, rfl⟩
  have hLl : L.length = (n - k) * size := by rw [hL]; simp [Builtin.zeroCells, hz]
  have hL1 : ∀ v ∈ L, v.oneCell' = true := by
    intro v hv'
    rw [hL] at hv'
    simp only [Builtin.zeroCells, Array.toList_map, List.mem_map] at hv'
    obtain ⟨i, _, rfl⟩ := hv'
    have hi : i % z.cells.size < z.cells.size := Nat.mod_lt _ (by omega)
    rw [getElem!_pos z.cells _ hi]
    exact h1 _ (Array.getElem_mem hi)
  have hxl := h.1
  have hst := run_storeCells_cells (P := P) g (k * size) L 0 w (fun j hj => by
      rw [h.cellAt (k * size + 0 + j) (by
        have : k * size + (n - k) * size = n * size := by rw [← Nat.add_mul]; congr 1; omega
        omega)]
      rw [List.getElem?_eq_getElem (by
        have : k * size + (n - k) * size = n * size := by rw [← Nat.add_mul]; congr 1; omega
        omega)]
      rfl) (fun j _ => h.frozenAt _) hL1
  obtain ⟨xs', ho, hx⟩ := own_setCells L (k * size) w xs h
  refine ⟨w.setCells g (k * size) L, ?_, ?_, ?_⟩
  · intro ty
    obtain ⟨m, hm⟩ : ∃ m, n - k = m + 1 := ⟨n - k - 1, by omega⟩
    rw [hm] at hL ⊢
    simp only [Nat.add_zero] at hst
    simp [Builtin.clear_, run_underlying ht, hv, ← hL, hst]
  · rw [← hx _ (Nat.le_refl _)]
    exact own_cut ho (by omega)
  · exact (grown_setCells g L _ w).1
end
theorem putL_erase {wl : List (Int × Value)} {n i : Nat} (hn : wl.length = n) (hi : i < n) : (putL (wl.flatMap encW) (i * 2) ((wl.flatMap encW).drop ((i + 1) * 2))).take ((n - 1) * 2) = (wl.eraseIdx i).flatMap encW := by
  have hl : (wl.flatMap encW).length = n * 2 := by rw [flat_length encW_len, hn]
  rw [List.eraseIdx_eq_take_drop_succ, List.flatMap_append, flat_take encW_len, flat_drop encW_len]
  apply List.ext_getElem?
  intro j
  have h1 : ((wl.flatMap encW).take (i * 2)).length = i * 2 := by rw [List.length_take]; omega
  rw [List.getElem?_take]
  by_cases hj : j < (n - 1) * 2
  · rw [if_pos hj]
    by_cases hji : j < i * 2
    · rw [putL_out _ _ _ _ (.inl hji), List.getElem?_append_left (by omega), List.getElem?_take, if_pos hji]
    · obtain ⟨k, rfl⟩ : ∃ k, j = i * 2 + k := ⟨j - i * 2, by omega⟩
      rw [putL_in _ _ _ _ (by rw [List.length_drop]; omega) (by rw [List.length_drop]; omega), List.getElem?_append_right (by omega), h1, show i * 2 + k - i * 2 = k by omega]
  · rw [if_neg hj, List.getElem?_eq_none]
    rw [List.length_append, h1, List.length_drop]; omega
set_option maxRecDepth 100000 in
theorem zero_wish (w : World) : (zeroValue 77).run Try.prog w = .ok (.agg #[.int .i64 0, .slice none 0 0]) w := by
  obtain ⟨i, hi, hz, _⟩ := info_parts info_wish
  simp [zeroValue, typeInfo, hi, hz]
def DelW (base g cap n i : Nat) (wl : List (Int × Value)) (w : World) (e : Ending) (w' : World) : Prop := e = .returned (.slice (some ⟨g, 0, none⟩) (n - 1) cap) ∧ w'.ownsRow base 77 2 (.slice (some ⟨g, 0, none⟩) (n - 1) cap) (n - 1) ((wl.eraseIdx i).flatMap encW) ∧ w.grownBy w' (some g)
set_option maxRecDepth 100000 in
set_option maxHeartbeats 1000000 in
theorem del_any (w : World) (base g cap n i : Nat) (wl : List (Int × Value)) (hrow : w.ownsRow base 77 2 (.slice (some ⟨g, 0, none⟩) n cap) n (wl.flatMap encW)) (hi : i < n) (hn : n ≤ 4) (hsl : ∀ x ∈ wl, ∃ A n c, x.2 = .slice A n c) :
    Calls Try.prog 71 #[.slice (some ⟨g, 0, none⟩) n cap, .int .i64 i, .int .i64 ((i : Int) + 1)] w (DelW base g cap n i wl w) := by
  obtain ⟨A, c, he, hnc, hcm, hrd⟩ := own_rd hrow
  injection he with he1 he2 he3
  subst he1 he3
  have Hrow := Lib.hid hrow
  have Hrd := Lib.hid hrd
  clear hrow hrd he2
  obtain ⟨i0, hi0, hz0, hz1, hz2⟩ := info_parts info_wish
  obtain ⟨mv, hmv⟩ : ∃ mv, mv = (wl.flatMap encW).drop ((i + 1) * 2) := ⟨_, rfl⟩
  have hlen : (wl.flatMap encW).length = n * 2 := Hrow.out.1
  have hmvl : mv.length = (n - (i + 1)) * 2 := by rw [hmv, List.length_drop, hlen, ← Nat.sub_mul]
  have s1 := Lib.hid hmvl
  obtain ⟨A, hA, hnews⟩ : ∃ A : Addr, (if cap = i + 1 then some (⟨g, 0, none⟩ : Addr) else some ⟨g, (i + 1) * 2, none⟩) = some A ∧ Hid (∀ j u, mv[j]? = some u → w.drew.cell? (A.add j) = some u) := by
    by_cases h : cap = i + 1
    · refine ⟨⟨g, 0, none⟩, by simp [h], fun j u hu => ?_⟩
      have h0 : mv.length = 0 := by rw [hmvl]; omega
      rw [List.length_eq_zero_iff.1 h0] at hu
      simp at hu
    · refine ⟨⟨g, (i + 1) * 2, none⟩, by simp [h], fun j u hu => ?_⟩
      obtain ⟨b', o', he, _, hc⟩ := Hrd.out.2 (by omega)
      injection he with he
      injection he with e1 e2
      subst e1 e2
      rw [Addr.add_lit]
      have := hc ((i + 1) * 2 + j) u (by rw [← hu, hmv, List.getElem?_drop])
      rw [Nat.zero_add] at this
      exact this
  have s2 : Hid (∀ u ∈ mv, u.oneCell' = true) := by
    intro u hu
    rw [hmv] at hu
    obtain ⟨x, hx, hux⟩ := List.mem_flatMap.1 (List.mem_of_mem_drop hu)
    obtain ⟨A, n, c, e⟩ := hsl x hx
    unfold encW at hux
    rw [e] at hux
    simp at hux
    rcases hux with rfl | rfl <;> rfl
  have s3 : Hid (∀ j, j < mv.length → (w.drew.cell? ⟨g, 0 + i * 2 + j, none⟩).isSome = true ∧ w.drew.frozen? ⟨g, 0 + i * 2 + j, none⟩ = false) := by
    intro j hj
    rw [hmvl] at hj
    refine ⟨?_, Hrow.out.frozenAt _⟩
    show (w.cell? _).isSome = true
    rw [Hrow.out.cellAt (0 + i * 2 + j) (by omega), List.getElem?_eq_getElem (by omega)]
    rfl
  have hic : i ≤ cap := by omega
  have hwr : IntKind.i64.wrap ((i : Int) + 1) = (i : Int) + 1 := by rw [IntKind.wrap_i64]; omega
  have hp0 : (0 : Int) ≤ (i : Int) + 1 := by omega
  have hp1 : (i : Int) + 1 ≤ (n : Int) := by omega
  have hp2 : ((i : Int) + 1).toNat = i + 1 := by omega
  obtain ⟨k, hk⟩ : ∃ k, i + (n - (i + 1)) = k := ⟨_, rfl⟩
  have hkn : k < n := by omega
  have Hk := Lib.hid (show k = n - 1 by omega)
  have hwn : wl.length = n := by rw [flat_length encW_len] at hlen; omega
  have hrow2 := own_putL mv (i * 2) w.drew _ (show w.drew.ownsRow _ _ _ _ _ _ from Hrow.out)
  obtain ⟨w3, hcl, ho3, hg3⟩ := run_clear_own2 (size := 2) (P := Try.prog) (w.drew.setCells g (i * 2) mv) 73 (.agg #[.int .i64 0, .slice none 0 0]) Try.underlying73 (fun w => zero_wish w) rfl (by intro v hv; simp [Value.cells] at hv; rcases hv with rfl | rfl <;> rfl) _ k hkn (by decide) hrow2
  have HP := Lib.hid (show DelW base g cap n i wl w (.returned (.slice (some ⟨g, 0, none⟩) k cap)) w3 from ⟨by rw [Hk.out], by
    rw [Hk.out, hmv, putL_erase hwn hi] at ho3
    exact ho3, by
    have h1 : w.grownBy (w.drew.setCells g (i * 2) mv) (some g) := ⟨(grown_setCells g mv _ w.drew).1.os, (grown_setCells g mv _ w.drew).1.tape, (grown_setCells g mv _ w.drew).1.output, (grown_setCells g mv _ w.drew).1.size, (grown_setCells g mv _ w.drew).1.block⟩
    have hz := (grown_setCells g mv (i * 2) w.drew).2
    exact ⟨hg3.os.trans h1.os, hg3.tape.trans h1.tape, hg3.output.trans h1.output, Nat.le_trans h1.size hg3.size, fun b hb hne => (hg3.block b (by rw [hz]; exact hb) hne).trans (h1.block b hb hne)⟩⟩)
  clear hsl hmv hlen hmvl ho3 hg3 hrow2 hwn
  go_enter Try.func71, Try.ntmps71
  go_wp2_with fail
  go_region_law (refine step_append_room rfl (.tmp 22) (.tmp 25) 73 rfl 77 i0 2 Try.underlying73 hi0 hz1 g 0 i cap (by simp [Act.eval, Act.put]) A (n - (i + 1)) (cap - (i + 1)) mv (by simp [Act.eval, Act.put]) s1.out hnews.out s2.out (by omega) s3.out ?_)
  go_wp2
  go_ret
  exact HP.out
end Go.Proofs.Ytambngbkegnghaa
