/- FallTells's walk: it returns true, for arguments of at most 1048576. Conditions: those typed. -/
import Derived.Test.YtaahpjjffggaiaaFallRefs
import Derived.Test.YtaahpjjffggaiaaEvOpen
import Derived.Test.YtaahpjjffggaiaaLogOpen
namespace Go.Proofs.Ytaahpjjffggaiaa.fallTells
open Go.RowKit Go.Gy
set_option linter.unusedVariables false
theorem walk (v0 v1 v2 : Value) (w : World) {b0 b1 b2 : Nat} (f0 : MemArg w v0 b0) (f1 : EvArg w v1 b1) (f2 : BytesArg w v2 b2) (hk : b0 ≤ 1048576 ∧ b1 ≤ 1048576 ∧ b2 ≤ 1048576) :
    Calls Try.prog 6 #[v0, v1, v2] w fun e w' => e = .returned (.bool true) ∧ Below w.heap.size w w' := by
  obtain ⟨m, A, n, c, A', n', c', rfl, ha, hh, _⟩ := f0
  obtain ⟨⟨k, v, ec⟩, D, p, d, rfl, he, _⟩ := f1
  obtain ⟨b, hv, h8, hb, _⟩ := f2
  exact tells_any w m A n c A' n' c' k v ec D p d v2 b ha hh he hv h8 (by omega)
end Go.Proofs.Ytaahpjjffggaiaa.fallTells
