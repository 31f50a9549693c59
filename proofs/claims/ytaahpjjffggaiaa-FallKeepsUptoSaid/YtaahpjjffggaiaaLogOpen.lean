/- Bytes and records as arguments; gantmake.Below. Conditions: those typed. -/
import Derived.Test.YtaahpjjffggaiaaOpen
import Derived.Test.YtaahpjjffggaiaaSlSs
namespace Go.Proofs.Ytaahpjjffggaiaa
open Go.RowKit Go.Gy Go.WideShapes
set_option linter.unusedVariables false

/-- bytes as they come -/
def BytesArg (W : World) (v : Value) (b : Nat) : Prop := ∃ r : List Nat, SlB W W.heap.size v r ∧ (∀ x ∈ r, x < 256) ∧ r.length < b ∧ r.length ≤ reachBytes
theorem slArg_bytes {W : World} {v : Value} {b : Nat} (h : SlArg (encI .u8) (wfI .u8) 1 1 W v b) : BytesArg W v b := by
  obtain ⟨A, n, c, xs, rfl, h1, h2, h3, h4, h5, h6, h7, h8⟩ := h
  have e : xs.flatMap (encI .u8) = (xs.map Int.toNat).map bv := by
    rw [flat_int, List.map_map]
    refine List.map_congr_left fun x hx => ?_
    have := wf_u8 (h8 x hx)
    show Value.int .u8 x = .int .u8 ((x.toNat : Nat) : Int)
    rw [Int.toNat_of_nonneg this.1]
  rw [e] at h7
  refine ⟨xs.map Int.toNat, ⟨A, n, c, rfl, by simpa using h1, h2, h6, h7⟩, fun x hx => ?_, by rw [List.length_map]; omega, by rw [List.length_map]; omega⟩
  obtain ⟨z, hz, rfl⟩ := List.mem_map.1 hx
  have := wf_u8 (h8 z hz)
  omega
def RowsArg (W : World) (v : Value) (b : Nat) : Prop := ∃ rs : List (List Nat), SlSs W W.heap.size v rs ∧ (∀ r ∈ rs, (∀ x ∈ r, x < 256) ∧ r.length < b ∧ r.length ≤ reachBytes) ∧ rs.length < b ∧ rs.length * 24 ≤ reachBytes
theorem opens_bytes (W : World) : Opens Try.prog W 33 (SliceOf W 1 1 fun cs _ => ∃ n, cs = [.int .u8 n] ∧ wfI .u8 n) := opens_slice Try.underlying33 (by kernel_rfl) (by omega) (by kernel_rfl) (opens_int Try.underlying5)
theorem sliceOf_bytes {W : World} {cs : List Value} {b : Nat} (h : SliceOf W 1 1 (fun cs _ => ∃ n, cs = [.int .u8 n] ∧ wfI .u8 n) cs b) : ∃ v, cs = [v] ∧ BytesArg W v b := by
  have h' := h
  obtain ⟨A, n, c, xs, hcs, _⟩ := h'
  refine ⟨.slice A n c, hcs, ?_⟩
  rw [hcs] at h
  exact slArg_bytes (SliceOf.arg (v := .slice A n c) rfl (by omega) h fun x m ⟨z, h1, h2⟩ => ⟨z, h1, h2⟩)
theorem lists_of : ∀ (ys : List (Value × List Nat)), ys.flatMap (fun a => [a.1]) = ys.map Prod.fst
  | [] => rfl
  | y :: ys => by simp [lists_of ys]
theorem sliceOf_rows {W : World} {v : Value} {b : Nat} (hv : v.cells.toList = [v]) (h : SliceOf W 1 24 (SliceOf W 1 1 fun cs _ => ∃ n, cs = [.int .u8 n] ∧ wfI .u8 n) v.cells.toList b) : RowsArg W v b := by
  have h2 : SliceOf W 1 24 (fun cs _ => ∃ v, cs = [v] ∧ BytesArg W v b) v.cells.toList b := by
    obtain ⟨A, n, c, xs, e0, e1, e2, e3, e4, e5, e6, e7, e8⟩ := h
    refine ⟨A, n, c, xs, e0, e1, e2, e3, e4, e5, e6, fun x hx => ?_, e8⟩
    obtain ⟨g1, m, g2, g3⟩ := e7 x hx
    obtain ⟨u, g4, r, g5, g6, g7, g8⟩ := sliceOf_bytes g2
    exact ⟨g1, m, ⟨u, g4, r, g5, g6, by omega, g8⟩, g3⟩
  obtain ⟨A, n, c, ys, rfl, e1, e2, e3, e4, e5, e6, e7, e8⟩ := SliceOf.arg (α := Value × List Nat) (enc := fun a => [a.1]) (Q := fun a => SlB W W.heap.size a.1 a.2 ∧ (∀ x ∈ a.2, x < 256) ∧ a.2.length < b ∧ a.2.length ≤ reachBytes) hv (by omega) h2 fun x m ⟨u, g1, r, g2⟩ => ⟨(u, r), g1, g2⟩
  rw [lists_of] at e7
  refine ⟨ys.map Prod.snd, ⟨A, n, c, ys.map Prod.fst, rfl, by simpa using e1, e2, e6, e7, by simp, fun i u r hu hr => ?_⟩, fun r hr => ?_, by rw [List.length_map]; omega, by rw [List.length_map]; omega⟩
  · rw [List.getElem?_map] at hu hr
    cases hy : ys[i]? with
    | none => rw [hy] at hu; cases hu
    | some y =>
      rw [hy] at hu hr
      simp at hu hr
      subst hu hr
      exact (e8 y (List.mem_of_getElem? hy)).1
  · obtain ⟨y, hy, rfl⟩ := List.mem_map.1 hr
    exact (e8 y hy).2
set_option maxRecDepth 100000 in
theorem arg_bytes2 {H : Type} {enc : TypeId × Value → H} {W : World} {v : Value} {d : DataW H} {p : List MemPlace} {r : Reach} {b0 : Nat} (hv : Value.okWide Try.prog W r b0 33 v) (h : DataW.Trod enc Try.prog W 0 (fun _ => true) true 33 v d p)
    (hw : ∀ m ∈ d.weights Try.prog 33, m ≤ reachBytes) : BytesArg W v (bulk d) := slArg_bytes (arg_ints Try.underlying33 Try.underlying5 (by kernel_rfl) (by kernel_rfl) hv h hw)
set_option maxRecDepth 100000 in
theorem arg_rows {H : Type} {enc : TypeId × Value → H} {W : World} {v : Value} {d : DataW H} {p : List MemPlace} {r : Reach} {b0 : Nat} (hv : Value.okWide Try.prog W r b0 77 v) (h : DataW.Trod enc Try.prog W 0 (fun _ => true) true 77 v d p)
    (hw : ∀ m ∈ d.weights Try.prog 77, m ≤ reachBytes) : RowsArg W v (bulk d) := by
  obtain ⟨a, n, c, rfl⟩ := okWide_slice Try.underlying77 hv
  exact sliceOf_rows rfl (view (opens_slice Try.underlying77 (by kernel_rfl) (by omega) (by kernel_rfl) (opens_bytes W)) h hw)

theorem tmod_wrap (x n : Int) (h0 : 0 < n) (hx : x.tmod n < 0) : x.tmod n + n = x % n := by
  have h := Int.tmod_def x n
  rw [Int.tmod_eq_emod] at hx ⊢
  split at hx
  · exfalso; have := Int.emod_nonneg x (show n ≠ 0 by omega); omega
  · rename_i h2; rw [if_neg h2]; omega
theorem tmod_pos (x n : Int) (h0 : 0 < n) (hx : 0 ≤ x.tmod n) : x.tmod n = x % n := by
  rw [Int.tmod_eq_emod] at hx ⊢
  split at hx
  · rename_i h2; rw [if_pos h2]; omega
  · exfalso
    have := Int.emod_lt_of_pos x h0
    omega
theorem below_any (x n : Int) (w : World) (h0 : 0 < n) (h1 : n ≤ 4294967296) :
    Calls Try.prog 20 #[.int .i64 x, .int .i64 n] w fun e w' => e = .returned (.int .i64 (x % n)) ∧ w = w' := by
  have b0 : -n ≤ x.tmod n := by
    by_cases h : x.tmod n < 0
    · have := tmod_wrap x n h0 h; have := Int.emod_nonneg x (show n ≠ 0 by omega); omega
    · omega
  go_enter Try.func20, Try.ntmps20
  go_wp2
  all_goals go_ret
  · exact ⟨ret_int (tmod_wrap x n h0 ‹_›), rfl⟩
  · exact ⟨ret_int (tmod_pos x n h0 ‹_›), rfl⟩
end Go.Proofs.Ytaahpjjffggaiaa
