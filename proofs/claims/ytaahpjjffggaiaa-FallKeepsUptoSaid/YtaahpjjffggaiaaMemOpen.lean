/- A controller's memory as an argument. Conditions: those typed. -/
import Derived.Test.YtaahpjjffggaiaaMsgOpen
import Derived.Test.YtaahpjjffggaiaaFallA
namespace Go.Proofs.Ytaahpjjffggaiaa
open Go.RowKit Go.Gy Go.WideShapes
set_option linter.unusedVariables false
def CellsSl (W : World) (v : Value) (l : List Cell) (b : Nat) : Prop := ∃ A n c, v = .slice A n c ∧ SlC W W.heap.size (.slice A n c) l ∧ n ≤ 8796093022207 ∧ n < b ∧ c * 16 ≤ reachBytes
def MemArg (W : World) (v : Value) (b : Nat) : Prop := ∃ (m : GMem) (A : Option Addr) (n c : Nat) (A' : Option Addr) (n' c' : Nat), v = memV m A n c A' n' c' ∧ SlC W W.heap.size (.slice A n c) m.asked ∧ SlC W W.heap.size (.slice A' n' c') m.has ∧ n ≤ 8796093022207 ∧ n' ≤ 8796093022207 ∧ (∀ x ∈ m.asked, wfC x) ∧ (∀ x ∈ m.has, wfC x) ∧ wfI .i64 m.goal ∧ wfI .i64 m.ticks ∧ wfI .i64 m.falls ∧ n + n' < b + b
theorem cellsSl_of {W : World} {v : Value} {b : Nat} (hs : SliceOf W 2 16 (fun cs _ => ∃ c : Cell, cs = encC c ∧ wfC c) [v] b) : ∃ A n c l, v = .slice A n c ∧ SlC W W.heap.size (.slice A n c) l ∧ n ≤ 8796093022207 ∧ n < b ∧ (∀ x ∈ l, wfC x) := by
  have hv : v.cells.toList = [v] := by
    obtain ⟨A, n, c, xs, he, _⟩ := hs
    obtain rfl : v = .slice A n c := by simpa using he
    rfl
  rw [← hv] at hs
  obtain ⟨A, n, c, xs, rfl, h1, h2, h3, h4, h5, h6, h7, h8⟩ := hs.arg hv (by omega) (enc := encC) (Q := wfC) fun x m ⟨c, h1, h2⟩ => ⟨c, h1, h2⟩
  exact ⟨A, n, c, xs, rfl, ⟨A, n, c, rfl, h1, h2, h6, h7⟩, by simp only [reachBytes] at h4; omega, by omega, h8⟩
theorem opens_mem (W : World) : Opens Try.prog W 46 fun cs b => ∃ v, cs = [] ++ v.cells.toList ∧ MemArg W v b := by
  refine (opens_fields Try.underlying46 (by kernel_rfl) (by kernel_rfl) (fun i v b => if i = 2 ∨ i = 3 then SliceOf W 2 16 (fun cs _ => ∃ c : Cell, cs = encC c ∧ wfC c) [v] b else ∃ n, v = .int .i64 n ∧ wfI .i64 n) ?_).mono ?_
  · intro i f hi
    match i, hi with
    | 0, hi => simp at hi; subst hi; exact field_int Try.underlying3
    | 1, hi => simp at hi; subst hi; exact field_int Try.underlying3
    | 2, hi => simp at hi; subst hi; exact field_slice Try.underlying25 (by kernel_rfl) (by omega) (by kernel_rfl) (opens_cell W)
    | 3, hi => simp at hi; subst hi; exact field_slice Try.underlying25 (by kernel_rfl) (by omega) (by kernel_rfl) (opens_cell W)
    | 4, hi => simp at hi; subst hi; exact field_int Try.underlying3
    | i + 5, hi => simp at hi
  · rintro cs b ⟨hl, h⟩
    obtain ⟨v0, _, e0, h0, _⟩ := h 0 (by decide)
    obtain ⟨v1, _, e1, h1, _⟩ := h 1 (by decide)
    obtain ⟨v2, m2, e2, h2, hm2⟩ := h 2 (by decide)
    obtain ⟨v3, m3, e3, h3, hm3⟩ := h 3 (by decide)
    obtain ⟨v4, _, e4, h4, _⟩ := h 4 (by decide)
    obtain ⟨n0, rfl, w0⟩ : ∃ n, v0 = .int .i64 n ∧ wfI .i64 n := h0
    obtain ⟨n1, rfl, w1⟩ : ∃ n, v1 = .int .i64 n ∧ wfI .i64 n := h1
    obtain ⟨n4, rfl, w4⟩ : ∃ n, v4 = .int .i64 n ∧ wfI .i64 n := h4
    obtain ⟨A, n, c, xs, rfl, s2, b2, d2, q2⟩ := cellsSl_of (show SliceOf W 2 16 (fun cs _ => ∃ c : Cell, cs = encC c ∧ wfC c) [v2] m2 from h2)
    obtain ⟨A', n', c', xs', rfl, s3, b3, d3, q3⟩ := cellsSl_of (show SliceOf W 2 16 (fun cs _ => ∃ c : Cell, cs = encC c ∧ wfC c) [v3] m3 from h3)
    match cs, hl with
    | [c0, c1, c2, c3, c4], _ =>
      simp at e0 e1 e2 e3 e4
      subst e0 e1 e2 e3 e4
      exact ⟨memV ⟨n0, n1, xs, xs', n4⟩ A n c A' n' c', rfl, ⟨n0, n1, xs, xs', n4⟩, A, n, c, A', n', c', rfl, s2, s3, b2, b3, q2, q3, w0, w1, w4, by omega⟩
set_option maxRecDepth 100000 in
theorem arg_mem {H : Type} {enc : TypeId × Value → H} {W : World} {v : Value} {d : DataW H} {p : List MemPlace} {r : Reach} {b0 : Nat} (hv : Value.okWide Try.prog W r b0 46 v) (h : DataW.Trod enc Try.prog W 0 (fun _ => true) true 46 v d p)
    (hw : ∀ m ∈ d.weights Try.prog 46, m ≤ reachBytes) : MemArg W v (bulk d) := by
  obtain ⟨cs, rfl, _⟩ := okWide_struct Try.underlying46 hv
  obtain ⟨v, he, h'⟩ := view (opens_mem W) h hw
  obtain ⟨m, A, n, c, A', n', c', rfl, h''⟩ := h'
  have he : cs.toList = [.int .i64 m.goal, .int .i64 m.ticks, .slice A n c, .slice A' n' c', .int .i64 m.falls] := he
  refine ⟨m, A, n, c, A', n', c', ?_, h''⟩
  have : cs = [.int .i64 m.goal, .int .i64 m.ticks, .slice A n c, .slice A' n' c', .int .i64 m.falls].toArray := by rw [← he]
  rw [this]
end Go.Proofs.Ytaahpjjffggaiaa
