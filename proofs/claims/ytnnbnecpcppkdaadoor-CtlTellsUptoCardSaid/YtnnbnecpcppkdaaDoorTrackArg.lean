/- Tracks as arguments. Conditions: those typed. -/
import Derived.Test.YtnnbnecpcppkdaaDoorArmArg
import Derived.Test.YtnnbnecpcppkdaaDoorCtlT
namespace Go.Proofs.YtnnbnecpcppkdaaDoor
open Go.RowKit Go.Gy Go.WideShapes
set_option linter.unusedVariables false
def KeyQ (W : World) (b : Nat) (k : Ky) : Prop := wfI .i64 k.1 ∧ SlQ W W.heap.size k.2.1 k.2.2 ∧ (∀ x ∈ k.2.2, x.le b) ∧ k.2.2.length < b
theorem KeyQ.more {W : World} {b b' : Nat} {k : Ky} (h : KeyQ W b k) (hb : b ≤ b') : KeyQ W b' k := ⟨h.1, h.2.1, fun x hx => (h.2.2.1 x hx).more hb, by have := h.2.2.2; omega⟩
def TrackArg (W : World) (v : Value) (b : Nat) : Prop := ∃ K : List Ky, SlK W W.heap.size v K ∧ (∀ k ∈ K, KeyQ W b k) ∧ K.length < b
set_option maxRecDepth 100000 in
theorem opens_key (W : World) : Opens Tryd.prog W 89 fun cs b => ∃ k : Ky, cs = encKy k ∧ KeyQ W b k := by
  refine (opens_struct2 Tryd.underlying89 (by kernel_rfl) ⟨rfl, by kernel_rfl⟩ ⟨rfl, by kernel_rfl⟩ (V0 := fun v _ => ∃ n, v = .int .i64 n ∧ (Lit.int .i64 n).wf = true) (V1 := fun v b => QuotsArg W v b) ((opens_int Tryd.underlying3).mono ?_) (opens_quots W)).mono ?_
  · rintro cs b ⟨n, h1, h2⟩
    exact ⟨_, h1, n, rfl, h2⟩
  · rintro cs b ⟨v0, v1, b0, b1, rfl, ⟨n, rfl, hn⟩, ⟨l, q1, q2, q3⟩, l0, l1⟩
    exact ⟨(n, v1, l), rfl, hn, q1, fun x hx => (q2 x hx).more (by omega), by show l.length < b; omega⟩
set_option maxRecDepth 100000 in
theorem arg_track {H : Type} {enc : TypeId × Value → H} {W : World} {v : Value} {d : DataW H} {p : List MemPlace} {r : Reach} {b0 : Nat} (hv : Value.okWide Tryd.prog W r b0 84 v) (h : DataW.Trod enc Tryd.prog W 0 (fun _ => true) true 84 v d p)
    (hw : ∀ m ∈ d.weights Tryd.prog 84, m ≤ reachBytes) : TrackArg W v (bulk d) := by
  obtain ⟨a, n, c, rfl⟩ := okWide_slice Tryd.underlying84 hv
  have hs := view (opens_slice Tryd.underlying84 (show Tryd.prog.cellsOf 89 = 2 by kernel_rfl) (by omega) (show Tryd.prog.bytesOf 89 = 32 by kernel_rfl) (opens_key W)) h hw
  obtain ⟨A, n', c', xs, hcs, h1, h2, h3, h4, h5, h6, h7, h8⟩ := hs
  have hs2 : SliceOf W 2 32 (fun cs _ => ∃ k : Ky, cs = encKy k ∧ KeyQ W (bulk d) k) (Value.slice a n c).cells.toList (bulk d) := ⟨A, n', c', xs, hcs, h1, h2, h3, h4, h5, h6, fun x hx => by
    obtain ⟨hl, m, ⟨k, e, hk⟩, hm2⟩ := h7 x hx
    exact ⟨hl, m, ⟨k, e, hk.more (by omega)⟩, hm2⟩, h8⟩
  obtain ⟨A, n, c, l, he, hl, hnc, _, _, hcb, hA, hrd, hq⟩ := hs2.arg (enc := encKy) (Q := KeyQ W (bulk d)) rfl (by omega) (fun x m hx => hx)
  exact ⟨l, ⟨A, n, c, he, hl, hnc, hA, hrd, fun k hk => (hq k hk).2.1⟩, hq, by omega⟩
end Go.Proofs.YtnnbnecpcppkdaaDoor
