/- '!=' and '==' at numbers. Conditions: those typed. -/
import Derived.Test.YtnnbnecpcppkdaaDoorMakeQ
import Derived.Test.YtnnbnecpcppkdaaDoorSeqIn
namespace Go.Proofs.YtnnbnecpcppkdaaDoor
open Go.RowKit Go.Gy
set_option linter.unusedVariables false
set_option maxRecDepth 100000 in
theorem neq_quot (w : World) (x : Q3) : (binOp .neq 25 (.agg #[.bool x.neg, .string x.num, .string x.den]) (.agg #[.bool x.neg, .string x.num, .string x.den])).run Tryd.prog w = .ok (.bool false) w := by
  have hS : Tryd.prog.underlying 25 = some (.struct (Tryd.prog.fieldsOf 25)) := by kernel_rfl
  have hp : Tryd.prog.stoodInHeld 25 = false := by kernel_rfl
  have u4 := Tryd.underlying4
  have us := Tryd.underlying9
  rw [run_neq_struct, show (10000 : Nat) = 9999 + 1 from rfl, run_equalIn_agg w 9999 25 _ _ hS hp]
  simp only [Program.fieldsOf, Tryd.underlying25]
  go_simp
theorem eqIn_quot (w : World) (d : Nat) (x : Q3) : (Op.equalIn (d + 2) 25 (.agg #[.bool x.neg, .string x.num, .string x.den]) (.agg #[.bool x.neg, .string x.num, .string x.den])).run Tryd.prog w = .ok true w := by
  have hS : Tryd.prog.underlying 25 = some (.struct (Tryd.prog.fieldsOf 25)) := by kernel_rfl
  have hp : Tryd.prog.stoodInHeld 25 = false := by kernel_rfl
  have u4 := Tryd.underlying4
  have us := Tryd.underlying9
  rw [run_equalIn_agg w (d + 1) 25 _ _ hS hp]
  simp only [Program.fieldsOf, Tryd.underlying25]
  go_simp
set_option maxRecDepth 100000 in
theorem eql_quot (w : World) (x : Q3) : (binOp .eql 25 (.agg #[.bool x.neg, .string x.num, .string x.den]) (.agg #[.bool x.neg, .string x.num, .string x.den])).run Tryd.prog w = .ok (.bool true) w := by
  have hS : Tryd.prog.underlying 25 = some (.struct (Tryd.prog.fieldsOf 25)) := by kernel_rfl
  have hp : Tryd.prog.stoodInHeld 25 = false := by kernel_rfl
  have u4 := Tryd.underlying4
  have us := Tryd.underlying9
  rw [run_eql_struct, show (10000 : Nat) = 9999 + 1 from rfl, run_equalIn_agg w 9999 25 _ _ hS hp]
  simp only [Program.fieldsOf, Tryd.underlying25]
  go_simp
theorem guard_quot : Tryd.prog.eqGuardType Tryd.prog.depth 25 = false := by kernel_rfl
end Go.Proofs.YtnnbnecpcppkdaaDoor
