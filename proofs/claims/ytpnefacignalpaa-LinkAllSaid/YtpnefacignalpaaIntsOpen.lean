/- Integers and rows of integers as arguments; gantmake.Below. Conditions: those typed. -/
import Derived.Test.YtpnefacignalpaaOpen
import Derived.Test.YtpnefacignalpaaIntsBase
namespace Go.Proofs.Ytpnefacignalpaa
open Go.RowKit Go.Gy Go.WideShapes
set_option linter.unusedVariables false

def InI (x : Int) : Prop := -9223372036854775808 ≤ x ∧ x ≤ 9223372036854775807
/-- integers as they come -/
def IntsArg (W : World) (v : Value) (b : Nat) : Prop := ∃ r : List Int, SlI W W.heap.size v r ∧ (∀ x ∈ r, InI x) ∧ r.length < b ∧ r.length * 8 ≤ reachBytes
theorem slArg_ints {W : World} {v : Value} {b : Nat} (h : SlArg (encI .i64) (wfI .i64) 1 8 W v b) : IntsArg W v b := by
  obtain ⟨A, n, c, xs, rfl, h1, h2, h3, h4, h5, h6, h7, h8⟩ := h
  have e : xs.flatMap (encI .i64) = xs.map iv := by rw [flat_int]
  rw [e] at h7
  exact ⟨xs, ⟨A, n, c, rfl, h1, h2, h6, h7⟩, fun x hx => wf_i64 (h8 x hx), by omega, by omega⟩
def IntRowsArg (W : World) (v : Value) (b : Nat) : Prop := ∃ rs : List (List Int), RowsI W W.heap.size v rs ∧ (∀ r ∈ rs, (∀ x ∈ r, InI x) ∧ r.length < b ∧ r.length * 8 ≤ reachBytes) ∧ rs.length < b ∧ rs.length * 24 ≤ reachBytes
theorem opens_ints (W : World) : Opens Try.prog W 29 (SliceOf W 1 8 fun cs _ => ∃ n, cs = [.int .i64 n] ∧ wfI .i64 n) := opens_slice Try.underlying29 (by kernel_rfl) (by omega) (by kernel_rfl) (opens_int Try.underlying3)
theorem sliceOf_ints {W : World} {cs : List Value} {b : Nat} (h : SliceOf W 1 8 (fun cs _ => ∃ n, cs = [.int .i64 n] ∧ wfI .i64 n) cs b) : ∃ v, cs = [v] ∧ IntsArg W v b := by
  have h' := h
  obtain ⟨A, n, c, xs, hcs, _⟩ := h'
  refine ⟨.slice A n c, hcs, ?_⟩
  rw [hcs] at h
  exact slArg_ints (SliceOf.arg (v := .slice A n c) rfl (by omega) h fun x m ⟨z, h1, h2⟩ => ⟨z, h1, h2⟩)
theorem lists_ofI : ∀ (ys : List (Value × List Int)), ys.flatMap (fun a => [a.1]) = ys.map Prod.fst
  | [] => rfl
  | y :: ys => by simp [lists_ofI ys]
theorem sliceOf_introws {W : World} {v : Value} {b : Nat} (hv : v.cells.toList = [v]) (h : SliceOf W 1 24 (SliceOf W 1 8 fun cs _ => ∃ n, cs = [.int .i64 n] ∧ wfI .i64 n) v.cells.toList b) : IntRowsArg W v b := by
  have h2 : SliceOf W 1 24 (fun cs _ => ∃ v, cs = [v] ∧ IntsArg W v b) v.cells.toList b := by
    obtain ⟨A, n, c, xs, e0, e1, e2, e3, e4, e5, e6, e7, e8⟩ := h
    refine ⟨A, n, c, xs, e0, e1, e2, e3, e4, e5, e6, fun x hx => ?_, e8⟩
    obtain ⟨g1, m, g2, g3⟩ := e7 x hx
    obtain ⟨u, g4, r, g5, g6, g7, g8⟩ := sliceOf_ints g2
    exact ⟨g1, m, ⟨u, g4, r, g5, g6, by omega, g8⟩, g3⟩
  obtain ⟨A, n, c, ys, rfl, e1, e2, e3, e4, e5, e6, e7, e8⟩ := SliceOf.arg (α := Value × List Int) (enc := fun a => [a.1]) (Q := fun a => SlI W W.heap.size a.1 a.2 ∧ (∀ x ∈ a.2, InI x) ∧ a.2.length < b ∧ a.2.length * 8 ≤ reachBytes) hv (by omega) h2 fun x m ⟨u, g1, r, g2⟩ => ⟨(u, r), g1, g2⟩
  rw [lists_ofI] at e7
  refine ⟨ys.map Prod.snd, ⟨A, n, c, ys.map Prod.fst, rfl, by simpa using e1, e2, e6, e7, by simp, fun i u r hu hr => ?_⟩, fun r hr => ?_, by rw [List.length_map]; omega, by rw [List.length_map]; omega⟩
  · rw [List.getElem?_map] at hu hr
    cases hy : ys[i]? with
    | none => rw [hy] at hu; cases hu
    | some y =>
      rw [hy] at hu hr
      simp at hu hr
      subst hu hr
      exact (e8 y (List.mem_of_getElem? hy)).1
  · obtain ⟨y, hy, rfl⟩ := List.mem_map.1 hr
    exact (e8 y hy).2
set_option maxRecDepth 100000 in
theorem arg_intsl {H : Type} {enc : TypeId × Value → H} {W : World} {v : Value} {d : DataW H} {p : List MemPlace} {r : Reach} {b0 : Nat} (hv : Value.okWide Try.prog W r b0 29 v) (h : DataW.Trod enc Try.prog W 0 (fun _ => true) true 29 v d p)
    (hw : ∀ m ∈ d.weights Try.prog 29, m ≤ reachBytes) : IntsArg W v (bulk d) := slArg_ints (arg_ints Try.underlying29 Try.underlying3 (by kernel_rfl) (by kernel_rfl) hv h hw)

theorem tmod_wrap (x n : Int) (h0 : 0 < n) (hx : x.tmod n < 0) : x.tmod n + n = x % n := by
  have h := Int.tmod_def x n
  rw [Int.tmod_eq_emod] at hx ⊢
  split at hx
  · exfalso; have := Int.emod_nonneg x (show n ≠ 0 by omega); omega
  · rename_i h2; rw [if_neg h2]; omega
theorem tmod_pos (x n : Int) (h0 : 0 < n) (hx : 0 ≤ x.tmod n) : x.tmod n = x % n := by
  rw [Int.tmod_eq_emod] at hx ⊢
  split at hx
  · rename_i h2; rw [if_pos h2]; omega
  · exfalso
    have := Int.emod_lt_of_pos x h0
    omega
theorem below_any (x n : Int) (w : World) (h0 : 0 < n) (h1 : n ≤ 4294967296) :
    Calls Try.prog 15 #[.int .i64 x, .int .i64 n] w fun e w' => e = .returned (.int .i64 (x % n)) ∧ w = w' := by
  have b0 : -n ≤ x.tmod n := by
    by_cases h : x.tmod n < 0
    · have := tmod_wrap x n h0 h; have := Int.emod_nonneg x (show n ≠ 0 by omega); omega
    · omega
  go_enter Try.func15, Try.ntmps15
  go_wp2
  all_goals go_ret
  · exact ⟨ret_int (tmod_wrap x n h0 ‹_›), rfl⟩
  · exact ⟨ret_int (tmod_pos x n h0 ‹_›), rfl⟩
end Go.Proofs.Ytpnefacignalpaa
