/- slices.Equal at two slices of the same numbers. Conditions: those typed. -/
import Derived.Test.YtnnbnecpcppkdaaDoorEqQ
import Derived.Test.YtnnbnecpcppkdaaDoorNoneF
namespace Go.Proofs.YtnnbnecpcppkdaaDoor
open Go.RowKit Go.Gy
set_option linter.unusedVariables false
set_option maxRecDepth 100000 in
set_option maxHeartbeats 2000000 in
theorem equal_same (w : World) (v v' : Value) (l : List Q3) (hv : SlQ w w.heap.size v l) (hv' : SlQ w w.heap.size v' l) (hn : l.length ≤ 1000000) :
    Calls Tryd.prog 30 #[v, v'] w fun e w' => e = .returned (.bool true) ∧ Below w.heap.size w w' := by
  obtain ⟨A, n, c, rfl, hln, hnc, hA, hrd⟩ := hv
  obtain ⟨A', n', c', rfl, hln', hnc', hA', hrd'⟩ := hv'
  subst hln
  subst hln'
  have HRD := Lib.hid hrd
  have HRD' := Lib.hid hrd'
  have ge := guard_quot
  have hst := Lib.hid (show NoRel w l.length (.int .i64 0) w from ⟨0, Nat.zero_le _, rfl, In.start w⟩)
  clear hrd hrd'
  go_enter Tryd.func30, Tryd.ntmps30
  go_wp2
  go_loopw [13] (fun i wr => NoRel w l.length i wr) (fun i _ => l.length - (intOf i).toNat)
  case atStart => exact hst.out
  case round =>
    clear hst
    obtain ⟨k, hk, rfl, hI⟩ := hrel
    by_cases hkn : k < l.length
    · have hki : (k : Int) < (l.length : Int) := by omega
      have hki2 : 0 ≤ (k : Int) ∧ (k : Int) < (l.length : Int) := by omega
      obtain ⟨x, hx⟩ : ∃ x, l[k]? = some x := ⟨_, List.getElem?_eq_getElem hkn⟩
      obtain ⟨b, o, rfl, hbB, e0, e1, e2⟩ := Rd.quot HRD.out hx
      obtain ⟨b', o', rfl, hbB', d0, d1, d2⟩ := Rd.quot HRD'.out hx
      have hn1 := fun W => neq_quot W x
      have E := Lib.hid (fun W (hW : Below w.heap.size w W) => (⟨Nat.lt_of_lt_of_le hbB hW.size, Nat.lt_of_lt_of_le hbB' hW.size, (hW.cell (p := ⟨b, o + k * 3, none⟩) hbB).trans e0, (hW.cell (p := ⟨b, o + k * 3 + 1, none⟩) hbB).trans e1, (hW.cell (p := ⟨b, o + k * 3 + 2, none⟩) hbB).trans e2, (hW.cell (p := ⟨b', o' + k * 3, none⟩) hbB').trans d0, (hW.cell (p := ⟨b', o' + k * 3 + 1, none⟩) hbB').trans d1, (hW.cell (p := ⟨b', o' + k * 3 + 2, none⟩) hbB').trans d2⟩ : And _ (And _ (And _ (And _ (And _ (And _ (And _ _))))))))
      have hwk : IntKind.i64.wrap ((k : Int) + 1) = (k : Int) + 1 := by rw [IntKind.wrap_i64]; omega
      have HN := Lib.hid (show ∀ W, In w [] W → NoRel w l.length (.int .i64 ((k : Int) + 1)) W from fun W hW => ⟨k + 1, hkn, by simp, hW⟩)
      clear e0 e1 e2 d0 d1 d2 hx hbB hbB'
      go_upto_region 6 with (fail)
      refine wp_region_in hI (by kernel_rfl) (by kernel_rfl) ?_
      repeat (first
        | (refine wpSeq_off (by rfl) ?_; try simp only [Act.put, List.setIfInBounds_toArray, List.set_cons_zero, List.set_cons_succ])
        | (refine wpSeq_val (v := ?_) (by rfl) (fun W hS => ?_) ?_
           rotate_left
           · (have fy0 := E.out W hS.bel; clear hS; go_simp; first | done | with_reducible rfl)
           try simp only [Act.put, List.setIfInBounds_toArray, List.set_cons_zero, List.set_cons_succ]))
      refine wpSeq_nil (fun W hS => ?_)
      have HX := Lib.hid (HN.out _ hS)
      clear hS hI E
      go_wp2_with fail
      go_roundw
      case rel => exact HX.out
      case measure => simp [intOf]; omega
    · obtain rfl : k = l.length := by omega
      have hki : ¬ (l.length : Int) < (l.length : Int) := by omega
      go_wp2
      go_ret
      exact ⟨rfl, hI.bel⟩
end Go.Proofs.YtnnbnecpcppkdaaDoor
