/- '!=' at numbers and boxes. Conditions: those typed. -/
import Derived.Test.YthmgcbpmfipfiaaDoorZoneA
namespace Go.Proofs.YthmgcbpmfipfiaaDoor
open Go.RowKit Go.Gy
set_option linter.unusedVariables false
set_option maxRecDepth 100000 in
theorem neq_quot (w : World) (x : Q3) : (binOp .neq 27 (.agg #[.bool x.neg, .string x.num, .string x.den]) (.agg #[.bool x.neg, .string x.num, .string x.den])).run Tryd.prog w = .ok (.bool false) w := by
  have hS : Tryd.prog.underlying 27 = some (.struct (Tryd.prog.fieldsOf 27)) := by kernel_rfl
  have hp : Tryd.prog.stoodInHeld 27 = false := by kernel_rfl
  have u4 := Tryd.underlying4
  have us := Tryd.underlying9
  rw [run_neq_struct, show (10000 : Nat) = 9999 + 1 from rfl, run_equalIn_agg w 9999 27 _ _ hS hp]
  simp only [Program.fieldsOf, Tryd.underlying27]
  go_simp
theorem eqIn_quot (w : World) (d : Nat) (x : Q3) : (Op.equalIn (d + 2) 27 (.agg #[.bool x.neg, .string x.num, .string x.den]) (.agg #[.bool x.neg, .string x.num, .string x.den])).run Tryd.prog w = .ok true w := by
  have hS : Tryd.prog.underlying 27 = some (.struct (Tryd.prog.fieldsOf 27)) := by kernel_rfl
  have hp : Tryd.prog.stoodInHeld 27 = false := by kernel_rfl
  have u4 := Tryd.underlying4
  have us := Tryd.underlying9
  rw [run_equalIn_agg w (d + 1) 27 _ _ hS hp]
  simp only [Program.fieldsOf, Tryd.underlying27]
  go_simp
theorem eqIn_vec (w : World) (d : Nat) (x y : Q3) : (Op.equalIn (d + 3) 58 (.agg #[.bool x.neg, .string x.num, .string x.den, .bool y.neg, .string y.num, .string y.den]) (.agg #[.bool x.neg, .string x.num, .string x.den, .bool y.neg, .string y.num, .string y.den])).run Tryd.prog w = .ok true w := by
  have hS : Tryd.prog.underlying 58 = some (.struct (Tryd.prog.fieldsOf 58)) := by kernel_rfl
  have hp : Tryd.prog.stoodInHeld 58 = false := by kernel_rfl
  have z1 := Tryd.isAgg27
  have z2 := Tryd.sizeOf27
  have e := eqIn_quot w d
  rw [run_equalIn_agg w (d + 2) 58 _ _ hS hp]
  simp only [Program.fieldsOf, Tryd.underlying58]
  go_simp
theorem neq_box (w : World) (x y z u : Q3) : (binOp .neq 64 (.agg #[.bool x.neg, .string x.num, .string x.den, .bool y.neg, .string y.num, .string y.den, .bool z.neg, .string z.num, .string z.den, .bool u.neg, .string u.num, .string u.den]) (.agg #[.bool x.neg, .string x.num, .string x.den, .bool y.neg, .string y.num, .string y.den, .bool z.neg, .string z.num, .string z.den, .bool u.neg, .string u.num, .string u.den])).run Tryd.prog w = .ok (.bool false) w := by
  have hS : Tryd.prog.underlying 64 = some (.struct (Tryd.prog.fieldsOf 64)) := by kernel_rfl
  have hp : Tryd.prog.stoodInHeld 64 = false := by kernel_rfl
  have z1 := Tryd.isAgg58
  have z2 := Tryd.sizeOf58
  have e := eqIn_vec w 9996
  rw [run_neq_struct, show (10000 : Nat) = 9999 + 1 from rfl, run_equalIn_agg w 9999 64 _ _ hS hp]
  simp only [Program.fieldsOf, Tryd.underlying64]
  go_simp
theorem guard_quot : Tryd.prog.eqGuardType Tryd.prog.depth 27 = false := by kernel_rfl
theorem guard_box : Tryd.prog.eqGuardType Tryd.prog.depth 64 = false := by kernel_rfl
end Go.Proofs.YthmgcbpmfipfiaaDoor
