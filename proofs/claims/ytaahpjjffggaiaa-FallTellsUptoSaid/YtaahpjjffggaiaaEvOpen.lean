/- An event as an argument. Conditions: those typed. -/
import Derived.Test.YtaahpjjffggaiaaMemOpen
namespace Go.Proofs.Ytaahpjjffggaiaa
open Go.RowKit Go.Gy Go.WideShapes
set_option linter.unusedVariables false
def EvArg (W : World) (v : Value) (b : Nat) : Prop := ∃ (e : GEv) (A : Option Addr) (n c : Nat), v = evV e A n c ∧ SlC W W.heap.size (.slice A n c) e.cells ∧ n ≤ 8796093022207 ∧ (∀ x ∈ e.cells, wfC x) ∧ wfI .i64 e.kind ∧ wfI .i64 e.n ∧ n < b
theorem opens_ev (W : World) : Opens Try.prog W 48 fun cs b => ∃ v, cs = [] ++ v.cells.toList ∧ EvArg W v b := by
  refine (opens_fields Try.underlying48 (by kernel_rfl) (by kernel_rfl) (fun i v b => if i = 2 then SliceOf W 2 16 (fun cs _ => ∃ c : Cell, cs = encC c ∧ wfC c) [v] b else ∃ n, v = .int .i64 n ∧ wfI .i64 n) ?_).mono ?_
  · intro i f hi
    match i, hi with
    | 0, hi => simp at hi; subst hi; exact field_int Try.underlying3
    | 1, hi => simp at hi; subst hi; exact field_int Try.underlying3
    | 2, hi => simp at hi; subst hi; exact field_slice Try.underlying25 (by kernel_rfl) (by omega) (by kernel_rfl) (opens_cell W)
    | i + 3, hi => simp at hi
  · rintro cs b ⟨hl, h⟩
    obtain ⟨v0, _, e0, h0, _⟩ := h 0 (by decide)
    obtain ⟨v1, _, e1, h1, _⟩ := h 1 (by decide)
    obtain ⟨v2, m2, e2, h2, hm2⟩ := h 2 (by decide)
    obtain ⟨n0, rfl, w0⟩ : ∃ n, v0 = .int .i64 n ∧ wfI .i64 n := h0
    obtain ⟨n1, rfl, w1⟩ : ∃ n, v1 = .int .i64 n ∧ wfI .i64 n := h1
    obtain ⟨A, n, c, xs, rfl, s2, b2, d2, q2⟩ := cellsSl_of (show SliceOf W 2 16 (fun cs _ => ∃ c : Cell, cs = encC c ∧ wfC c) [v2] m2 from h2)
    match cs, hl with
    | [c0, c1, c2], _ =>
      simp at e0 e1 e2
      subst e0 e1 e2
      exact ⟨evV ⟨n0, n1, xs⟩ A n c, rfl, ⟨n0, n1, xs⟩, A, n, c, rfl, s2, b2, q2, w0, w1, by omega⟩
set_option maxRecDepth 100000 in
theorem arg_event {H : Type} {enc : TypeId × Value → H} {W : World} {v : Value} {d : DataW H} {p : List MemPlace} {r : Reach} {b0 : Nat} (hv : Value.okWide Try.prog W r b0 48 v) (h : DataW.Trod enc Try.prog W 0 (fun _ => true) true 48 v d p)
    (hw : ∀ m ∈ d.weights Try.prog 48, m ≤ reachBytes) : EvArg W v (bulk d) := by
  obtain ⟨cs, rfl, _⟩ := okWide_struct Try.underlying48 hv
  obtain ⟨v, he, h'⟩ := view (opens_ev W) h hw
  obtain ⟨e, A, n, c, rfl, h''⟩ := h'
  have he : cs.toList = [.int .i64 e.kind, .int .i64 e.n, .slice A n c] := he
  refine ⟨e, A, n, c, ?_, h''⟩
  have : cs = [.int .i64 e.kind, .int .i64 e.n, .slice A n c].toArray := by rw [← he]
  rw [this]
end Go.Proofs.Ytaahpjjffggaiaa
