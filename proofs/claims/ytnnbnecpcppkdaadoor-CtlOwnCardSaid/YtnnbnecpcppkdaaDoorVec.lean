/- Streams. Conditions: those typed. -/
import Derived.Test.YtnnbnecpcppkdaaDoorMake
import Derived.Test.YtnnbnecpcppkdaaDoorMakeQ
import Derived.Test.YtnnbnecpcppkdaaDoorSeqIn
namespace Go.Proofs.YtnnbnecpcppkdaaDoor
open Go.RowKit Go.Gy
set_option linter.unusedVariables false
/-- a block apart from those known has changed -/
theorem In.next {w W W' : World} {l : List (Nat × TypeId × Array Value)} {b : Nat} (h : In w l W) (hg : W.grownBy W' (some b)) (hb : w.heap.size ≤ b) (hn : ∀ x ∈ l, x.1 ≠ b) : In w l W' := by
  obtain ⟨g1, g2, g3, g4, g5⟩ := hg
  have keep : ∀ k, k < W.heap.size → k ≠ b → W'.heap[k]? = W.heap[k]? := fun k hk hne => g5 k hk (fun e => hne (Option.some.inj e))
  exact ⟨h.bel.trans ⟨g1, g2, g3, g4, fun k hk => keep k (Nat.lt_of_lt_of_le hk h.bel.size) (by omega)⟩, fun x hx => (keep x.1 (h.blk x hx).lt (hn x hx)).trans (h.blk x hx), h.new, h.apart⟩
theorem StrAt.below {w w' : World} {B b : Nat} (h : StrAt w B b) (hb : Below w.heap.size w w') (hB : B ≤ w.heap.size) : StrAt w' B b := by
  obtain ⟨v, l, h1, h2, h3⟩ := h
  exact ⟨v, l, h1.below hb h1.lt, h2.below (hb.mono hB), h3⟩
end Go.Proofs.YtnnbnecpcppkdaaDoor
