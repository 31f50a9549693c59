/- Faults as an argument. Conditions: those typed. -/
import Derived.Test.YtpnefacignalpaaOpen
import Derived.Test.YtpnefacignalpaaCells
namespace Go.Proofs.Ytpnefacignalpaa
open Go.RowKit Go.Gy Go.WideShapes
set_option linter.unusedVariables false
theorem arg_faultsl {H : Type} {enc : TypeId × Value → H} {W : World} {v : Value} {d : DataW H} {p : List MemPlace} {r : Reach} {b0 : Nat} (hv : Value.okWide Try.prog W r b0 36 v) (h : DataW.Trod enc Try.prog W 0 (fun _ => true) true 36 v d p) (hw : ∀ m ∈ d.weights Try.prog 36, m ≤ reachBytes) : SlArg Go.Gy.encF wfF 3 24 W v (bulk d) :=
  arg_faults Try.underlying36 Try.underlying66 Try.underlying3 (by kernel_rfl) (by exact ⟨rfl, by kernel_rfl⟩) (by exact ⟨rfl, by kernel_rfl⟩) (by exact ⟨rfl, by kernel_rfl⟩) rfl rfl rfl (by kernel_rfl) hv h hw
end Go.Proofs.Ytpnefacignalpaa
