/- slices.IndexFunc, slices.ContainsFunc at numbers of which none is wanted. Conditions: those typed. -/
import Derived.Test.YtnnbnecpcppkdaaDoorMakeQ
import Derived.Test.YtnnbnecpcppkdaaDoorSeqIn
namespace Go.Proofs.YtnnbnecpcppkdaaDoor
open Go.RowKit Go.Gy
set_option linter.unusedVariables false
def NoRel (w : World) (n : Nat) (i : Value) (wr : World) : Prop := ∃ k : Nat, k ≤ n ∧ i = .int .i64 k ∧ In w [] wr
set_option maxRecDepth 100000 in
set_option maxHeartbeats 2000000 in
theorem nonei_any (F : Nat) (hF : ∀ args w, (callFunc F args).run Tryd.prog w = .ok (.enter F args) w) (w : World) (v : Value) (l : List Q3) (hv : SlQ w w.heap.size v l) (hn : l.length ≤ 1000000)
    (hp : ∀ x ∈ l, ∀ W, Below w.heap.size w W → Calls Tryd.prog F #[.agg #[.bool x.neg, .string x.num, .string x.den]] W fun e w' => e = .returned (.bool false) ∧ Below W.heap.size W w') :
    Calls Tryd.prog 72 #[v, .func (.func F) #[] #[]] w fun e w' => e = .returned (.int .i64 (-1)) ∧ Below w.heap.size w w' := by
  obtain ⟨A, n, c, rfl, hln, hnc, hA, hrd⟩ := hv
  subst hln
  have HRD := Lib.hid hrd
  have HP := Lib.hid hp
  have hst := Lib.hid (show NoRel w l.length (.int .i64 0) w from ⟨0, Nat.zero_le _, rfl, In.start w⟩)
  clear hrd hp
  go_enter Tryd.func72, Tryd.ntmps72
  go_wp2
  go_loopw [8] (fun i wr => NoRel w l.length i wr) (fun i _ => l.length - (intOf i).toNat)
  case atStart => exact hst.out
  case round =>
    clear hst
    obtain ⟨k, hk, rfl, hI⟩ := hrel
    by_cases hkn : k < l.length
    · have hki : (k : Int) < (l.length : Int) := by omega
      have hki2 : 0 ≤ (k : Int) ∧ (k : Int) < (l.length : Int) := by omega
      obtain ⟨x, hx⟩ : ∃ x, l[k]? = some x := ⟨_, List.getElem?_eq_getElem hkn⟩
      obtain ⟨b, o, rfl, hbB, e0, e1, e2⟩ := Rd.quot HRD.out hx
      have d0 := (hI.bel.cell (p := ⟨b, o + k * 3, none⟩) hbB).trans e0
      have d1 := (hI.bel.cell (p := ⟨b, o + k * 3 + 1, none⟩) hbB).trans e1
      have d2 := (hI.bel.cell (p := ⟨b, o + k * 3 + 2, none⟩) hbB).trans e2
      have hbn : b < wr.heap.size := Nat.lt_of_lt_of_le hbB hI.bel.size
      have hwk : IntKind.i64.wrap ((k : Int) + 1) = (k : Int) + 1 := by rw [IntKind.wrap_i64]; omega
      have HC := Lib.hid (HP.out x (List.mem_of_getElem? hx) wr hI.bel)
      clear e0 e1 e2 hx
      go_wp2_with fail
      refine HC.out.mono ?_
      rintro e wn ⟨rfl, hb⟩
      have HX := Lib.hid (show NoRel w l.length (.int .i64 ((k : Int) + 1)) wn from ⟨k + 1, hkn, by simp, hI.call hb⟩)
      clear hb hI d0 d1 d2
      go_wp2_with fail
      go_roundw
      case rel => exact HX.out
      case measure => simp [intOf]; omega
    · obtain rfl : k = l.length := by omega
      have hki : ¬ (l.length : Int) < (l.length : Int) := by omega
      go_wp2
      go_ret
      exact ⟨rfl, hI.bel⟩
set_option maxRecDepth 100000 in
set_option maxHeartbeats 2000000 in
theorem nonec_any (F : Nat) (hF : ∀ args w, (callFunc F args).run Tryd.prog w = .ok (.enter F args) w) (w : World) (v : Value) (l : List Q3) (hv : SlQ w w.heap.size v l) (hn : l.length ≤ 1000000)
    (hp : ∀ x ∈ l, ∀ W, Below w.heap.size w W → Calls Tryd.prog F #[.agg #[.bool x.neg, .string x.num, .string x.den]] W fun e w' => e = .returned (.bool false) ∧ Below W.heap.size W w') :
    Calls Tryd.prog 31 #[v, .func (.func F) #[] #[]] w fun e w' => e = .returned (.bool false) ∧ Below w.heap.size w w' := by
  have HC := Lib.hid (nonei_any F hF w v l hv hn hp)
  clear hp hv
  go_enter Tryd.func31, Tryd.ntmps31
  go_wp2_with fail
  refine HC.out.mono ?_
  rintro e wn ⟨rfl, hb⟩
  go_wp2
  go_ret
  exact ⟨rfl, hb⟩
end Go.Proofs.YtnnbnecpcppkdaaDoor
