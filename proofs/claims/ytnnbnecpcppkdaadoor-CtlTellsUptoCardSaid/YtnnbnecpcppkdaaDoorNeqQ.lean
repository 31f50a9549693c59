/- '!=' at two numbers in lowest terms. Conditions: those typed. -/
import Derived.Test.YtnnbnecpcppkdaaDoorEqQ
namespace Go.Proofs.YtnnbnecpcppkdaaDoor
open Go.RowKit Go.Gy
set_option linter.unusedVariables false
theorem str_toList {a b : ByteArray} (h : a.toList = b.toList) : a = b := by
  rw [ByteArray.toList_eq, ByteArray.toList_eq] at h
  exact ByteArray.ext (Array.toList_inj.mp h)
set_option maxRecDepth 100000 in
theorem neq_diff (w : World) (x y : Q3) (h : x ≠ y) : (binOp .neq 25 (.agg #[.bool x.neg, .string x.num, .string x.den]) (.agg #[.bool y.neg, .string y.num, .string y.den])).run Tryd.prog w = .ok (.bool true) w := by
  have hS : Tryd.prog.underlying 25 = some (.struct (Tryd.prog.fieldsOf 25)) := by kernel_rfl
  have hp : Tryd.prog.stoodInHeld 25 = false := by kernel_rfl
  have u4 := Tryd.underlying4
  have us := Tryd.underlying9
  obtain ⟨xn, xs, xt⟩ := x
  obtain ⟨yn, ys, yt⟩ := y
  rw [run_neq_struct, show (10000 : Nat) = 9999 + 1 from rfl, run_equalIn_agg w 9999 25 _ _ hS hp]
  simp only [Program.fieldsOf, Tryd.underlying25]
  by_cases h1 : xn = yn
  · subst h1
    by_cases h2 : xs = ys
    · subst h2
      have h3 : ¬ xt.toList = yt.toList := fun h4 => h (by rw [str_toList h4])
      go_simp
    · have h3 : ¬ xs.toList = ys.toList := fun h4 => h2 (str_toList h4)
      go_simp
  · have h3 : (xn == yn) = false := by
      rw [Bool.eq_false_iff]
      intro h4
      exact h1 (by simpa using h4)
    go_simp
end Go.Proofs.YtnnbnecpcppkdaaDoor
