/- A message, a slice of cells, of messages, as arguments. Conditions: those typed. -/
import Derived.Test.YtpnefacignalpaaOpen
import Derived.Test.YtpnefacignalpaaMsg
namespace Go.Proofs.Ytpnefacignalpaa
open Go.RowKit Go.Gy Go.WideShapes
set_option linter.unusedVariables false
def wfC (c : Cell) : Prop := wfI .i64 c.1 ∧ wfI .i64 c.2
theorem opens_cell (W : World) : Opens Try.prog W 88 fun cs _ => ∃ c : Cell, cs = encC c ∧ wfC c := by
  refine (opens_fields Try.underlying88 (by kernel_rfl) (by kernel_rfl) (fun _ v _ => ∃ n, v = .int .i64 n ∧ wfI .i64 n) ?_).mono ?_
  · intro i f hi
    match i, hi with
    | 0, hi => simp at hi; subst hi; exact field_int Try.underlying3
    | 1, hi => simp at hi; subst hi; exact field_int Try.underlying3
    | i + 2, hi => simp at hi
  · rintro cs b ⟨hl, h⟩
    obtain ⟨v0, _, e0, ⟨n0, rfl, w0⟩, _⟩ := h 0 (by decide)
    obtain ⟨v1, _, e1, ⟨n1, rfl, w1⟩, _⟩ := h 1 (by decide)
    match cs, hl with
    | [c0, c1], _ => simp at e0 e1; subst e0 e1; exact ⟨(n0, n1), rfl, w0, w1⟩
structure wfM (m : GMsg) : Prop where
  kind : wfI .i64 m.kind
  src : wfI .i64 m.src
  dst : wfI .i64 m.dst
  seq : wfI .i64 m.seq
  clock : wfI .u32 m.clock
  cells : ∀ c ∈ m.cells, wfC c
theorem opens_msg (W : World) : Opens Try.prog W 43 fun cs b => ∃ (m : GMsg) (A : Option Addr) (n c : Nat), cs = [.int .i64 m.kind, .int .i64 m.src, .int .i64 m.dst, .int .i64 m.seq, .int .u32 m.clock, .slice A n c] ∧ MsgAt W W.heap.size m A n c ∧ wfM m ∧ n < b ∧ c * 16 ≤ reachBytes := by
  refine (opens_fields Try.underlying43 (by kernel_rfl) (by kernel_rfl) (fun i v b => if i < 4 then ∃ n, v = .int .i64 n ∧ wfI .i64 n else if i = 4 then ∃ n, v = .int .u32 n ∧ wfI .u32 n else SliceOf W 2 16 (fun cs _ => ∃ c : Cell, cs = encC c ∧ wfC c) [v] b) ?_).mono ?_
  · intro i f hi
    match i, hi with
    | 0, hi => simp at hi; subst hi; exact field_int Try.underlying3
    | 1, hi => simp at hi; subst hi; exact field_int Try.underlying3
    | 2, hi => simp at hi; subst hi; exact field_int Try.underlying3
    | 3, hi => simp at hi; subst hi; exact field_int Try.underlying3
    | 4, hi => simp at hi; subst hi; exact field_int Try.underlying40
    | 5, hi => simp at hi; subst hi; exact field_slice Try.underlying41 (by kernel_rfl) (by omega) (by kernel_rfl) (opens_cell W)
    | i + 6, hi => simp at hi
  · rintro cs b ⟨hl, h⟩
    obtain ⟨v0, _, e0, ⟨n0, rfl, w0⟩, _⟩ := h 0 (by decide)
    obtain ⟨v1, _, e1, ⟨n1, rfl, w1⟩, _⟩ := h 1 (by decide)
    obtain ⟨v2, _, e2, ⟨n2, rfl, w2⟩, _⟩ := h 2 (by decide)
    obtain ⟨v3, _, e3, ⟨n3, rfl, w3⟩, _⟩ := h 3 (by decide)
    obtain ⟨v4, _, e4, ⟨n4, rfl, w4⟩, _⟩ := h 4 (by decide)
    obtain ⟨v5, m5, e5, hs, hm5⟩ := h 5 (by decide)
    have hs : SliceOf W 2 16 (fun cs _ => ∃ c : Cell, cs = encC c ∧ wfC c) [v5] m5 := hs
    have hv : v5.cells.toList = [v5] := by
      obtain ⟨A, n, c, xs, he, _⟩ := hs
      obtain rfl : v5 = .slice A n c := by simpa using he
      rfl
    rw [← hv] at hs
    obtain ⟨A, n, c, xs, rfl, h1, h2, h3, h4, h5, h6, h7, h8⟩ := hs.arg hv (by omega) (enc := encC) (Q := wfC) fun x m ⟨c, h1, h2⟩ => ⟨c, h1, h2⟩
    match cs, hl with
    | [c0, c1, c2, c3, c4, c5], _ =>
      simp at e0 e1 e2 e3 e4 e5
      subst e0 e1 e2 e3 e4 e5
      refine ⟨⟨n0, n1, n2, n3, n4, xs⟩, A, n, c, rfl, ⟨h1, h2, fun hA => ?_, ?_, h7⟩, ⟨w0, w1, w2, w3, w4, h8⟩, by omega, h4⟩
      · have := h6 hA; omega
      · simp only [reachBytes] at h4; omega
def MsgArg (W : World) (v : Value) (b : Nat) : Prop := ∃ (m : GMsg) (A : Option Addr) (n c : Nat), v = msgV m A n c ∧ MsgAt W W.heap.size m A n c ∧ wfM m ∧ n < b ∧ c * 16 ≤ reachBytes
set_option maxRecDepth 100000 in
theorem arg_msg {H : Type} {enc : TypeId × Value → H} {W : World} {v : Value} {d : DataW H} {p : List MemPlace} {r : Reach} {b0 : Nat} (hv : Value.okWide Try.prog W r b0 43 v) (h : DataW.Trod enc Try.prog W 0 (fun _ => true) true 43 v d p)
    (hw : ∀ m ∈ d.weights Try.prog 43, m ≤ reachBytes) : MsgArg W v (bulk d) := by
  obtain ⟨cs, rfl, _⟩ := okWide_struct Try.underlying43 hv
  obtain ⟨m, A, n, c, he, h'⟩ := view (opens_msg W) h hw
  have he : cs.toList = _ := he
  refine ⟨m, A, n, c, ?_, h'⟩
  have : cs = [.int .i64 m.kind, .int .i64 m.src, .int .i64 m.dst, .int .i64 m.seq, .int .u32 m.clock, .slice A n c].toArray := by rw [← he]
  rw [this]
end Go.Proofs.Ytpnefacignalpaa
