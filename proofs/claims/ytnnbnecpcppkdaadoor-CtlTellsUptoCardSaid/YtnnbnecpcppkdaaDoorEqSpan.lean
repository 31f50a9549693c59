/- '!=' at spans. Conditions: those typed. -/
import Derived.Test.YtnnbnecpcppkdaaDoorEqQ
namespace Go.Proofs.YtnnbnecpcppkdaaDoor
open Go.RowKit Go.Gy
set_option linter.unusedVariables false
set_option maxRecDepth 100000 in
theorem neq_span (w : World) (x y : Q3) : (binOp .neq 68 (.agg #[.bool x.neg, .string x.num, .string x.den, .bool y.neg, .string y.num, .string y.den]) (.agg #[.bool x.neg, .string x.num, .string x.den, .bool y.neg, .string y.num, .string y.den])).run Tryd.prog w = .ok (.bool false) w := by
  have hS : Tryd.prog.underlying 68 = some (.struct (Tryd.prog.fieldsOf 68)) := by kernel_rfl
  have hp : Tryd.prog.stoodInHeld 68 = false := by kernel_rfl
  have e1 := eqIn_quot w 9997 x
  have e2 := eqIn_quot w 9997 y
  rw [run_neq_struct, show (10000 : Nat) = 9999 + 1 from rfl, run_equalIn_agg w 9999 68 _ _ hS hp]
  simp only [Program.fieldsOf, Tryd.underlying68]
  go_simp
theorem guard_span : Tryd.prog.eqGuardType Tryd.prog.depth 68 = false := by kernel_rfl
set_option maxRecDepth 100000 in
theorem build_span (w : World) (x y : Q3) : (Instr.build 68 #[(0, .agg #[.bool x.neg, .string x.num, .string x.den]), (1, .agg #[.bool y.neg, .string y.num, .string y.den])]).run Tryd.prog w = .ok (.agg #[.bool x.neg, .string x.num, .string x.den, .bool y.neg, .string y.num, .string y.den]) w := by go_simp
theorem exec_build2 {P : Program} {ev : Operand → Value} {o : Oper} {t : TypeId} {i0 i1 : Nat} {x0 x1 : Operand} {v0 v1 v : Value} {w : World} (ho : o.op = .build t #[(i0, x0), (i1, x1)]) (h0 : ev x0 = v0) (h1 : ev x1 = v1)
    (h : (Instr.build t #[(i0, v0), (i1, v1)]).run P w = .ok v w) : (execOp ev o).run P w = .ok (.value v) w := by
  have hm : (#[(i0, x0), (i1, x1)] : Array (Nat × Operand)).map (fun (p : Nat × Operand) => (p.1, ev p.2)) = #[(i0, v0), (i1, v1)] := by
    simp [h0, h1]
  unfold execOp
  rw [ho]
  show ((Instr.build t ((#[(i0, x0), (i1, x1)] : Array (Nat × Operand)).map (fun (p : Nat × Operand) => (p.1, ev p.2)))) >>= fun x => pure (Next.value x)).run P w = _
  rw [hm, Sem.run_bind, h]
  rfl
end Go.Proofs.YtnnbnecpcppkdaaDoor
