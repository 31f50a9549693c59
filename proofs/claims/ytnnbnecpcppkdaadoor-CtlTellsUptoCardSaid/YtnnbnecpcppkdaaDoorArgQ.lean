/- Slices of integers: words. No condition but those typed. Integers and rows of integers as arguments. x[:k] as a single step. Conditions: those typed. -/
import Derived.Test.YtnnbnecpcppkdaaDoorWords
import Derived.Test.YtnnbnecpcppkdaaDoorRows
import Derived.Lib.SliceRun
import Derived.Test.YtnnbnecpcppkdaaDoorOpen
namespace Go.Proofs.YtnnbnecpcppkdaaDoor
open Go.RowKit Go.Gy
set_option linter.unusedVariables false

abbrev iv (x : Int) : Value := .int .i64 x
/-- The value v reads as the integers r, below block B; several; a slice of them. -/
def SlI (w : World) (B : Nat) (v : Value) (r : List Int) : Prop := ∃ A n c, v = .slice A n c ∧ r.length = n ∧ n ≤ c ∧ (A = none → c = 0) ∧ Rd w B 1 A n (r.map iv)
theorem SlI.below {w w' : World} {B : Nat} {v : Value} {r : List Int} (h : SlI w B v r) (hb : Below B w w') : SlI w' B v r := by
  obtain ⟨A, n, c, h1, h2, h3, h4, h5⟩ := h
  exact ⟨A, n, c, h1, h2, h3, h4, h5.below hb⟩
theorem SlI.more {w : World} {B B' : Nat} {v : Value} {r : List Int} (h : SlI w B v r) (hB : B ≤ B') : SlI w B' v r := by
  obtain ⟨A, n, c, h1, h2, h3, h4, h5⟩ := h
  exact ⟨A, n, c, h1, h2, h3, h4, h5.more hB⟩
theorem SlI.own {w : World} {base n : Nat} {v : Value} {r : List Int} (h : w.ownsRow base 3 1 v n (r.map iv)) : SlI w w.heap.size v r := by
  have hl := h.1
  obtain ⟨A, c, rfl, h1, _, h2⟩ := own_rd h
  exact ⟨A, n, c, rfl, by simpa using hl, h1, fun hA => (own_none h hA).2, h2⟩
def SlIs (w : World) (B : Nat) (vs : List Value) (rs : List (List Int)) : Prop := vs.length = rs.length ∧ ∀ (i : Nat) (v : Value) (r : List Int), vs[i]? = some v → rs[i]? = some r → SlI w B v r
theorem SlIs.below {w w' : World} {B : Nat} {vs : List Value} {rs : List (List Int)} (h : SlIs w B vs rs) (hb : Below B w w') : SlIs w' B vs rs := ⟨h.1, fun i v r h1 h2 => (h.2 i v r h1 h2).below hb⟩
theorem SlIs.more {w : World} {B B' : Nat} {vs : List Value} {rs : List (List Int)} (h : SlIs w B vs rs) (hB : B ≤ B') : SlIs w B' vs rs := ⟨h.1, fun i v r h1 h2 => (h.2 i v r h1 h2).more hB⟩
def RowsI (w : World) (B : Nat) (v : Value) (rs : List (List Int)) : Prop := ∃ A n c vs, v = .slice A n c ∧ rs.length = n ∧ n ≤ c ∧ (A = none → c = 0) ∧ Rd w B 1 A n vs ∧ SlIs w B vs rs
theorem RowsI.below {w w' : World} {B : Nat} {v : Value} {rs : List (List Int)} (h : RowsI w B v rs) (hb : Below B w w') : RowsI w' B v rs := by
  obtain ⟨A, n, c, vs, h1, h2, h3, h4, h5, h6⟩ := h
  exact ⟨A, n, c, vs, h1, h2, h3, h4, h5.below hb, h6.below hb⟩
theorem RowsI.more {w : World} {B B' : Nat} {v : Value} {rs : List (List Int)} (h : RowsI w B v rs) (hB : B ≤ B') : RowsI w B' v rs := by
  obtain ⟨A, n, c, vs, h1, h2, h3, h4, h5, h6⟩ := h
  exact ⟨A, n, c, vs, h1, h2, h3, h4, h5.more hB, h6.more hB⟩
theorem iv_one (r : List Int) : ∀ u ∈ r.map iv, u.oneCell' = true := by
  intro u hu
  obtain ⟨x, _, rfl⟩ := List.mem_map.1 hu
  rfl
theorem info_int : (Tryd.prog.info? 3).map (fun i => (i.zero, i.size, i.bytes)) = some (some (.int .i64 0), 1, 8) := by kernel_rfl

end Go.Proofs.YtnnbnecpcppkdaaDoor
namespace Go.Proofs.YtnnbnecpcppkdaaDoor
open Go.RowKit Go.Gy Go.WideShapes
set_option linter.unusedVariables false

def InI (x : Int) : Prop := -9223372036854775808 ≤ x ∧ x ≤ 9223372036854775807
/-- integers as they come -/
def IntsArg (W : World) (v : Value) (b : Nat) : Prop := ∃ r : List Int, SlI W W.heap.size v r ∧ (∀ x ∈ r, InI x) ∧ r.length < b ∧ r.length * 8 ≤ reachBytes
theorem slArg_ints {W : World} {v : Value} {b : Nat} (h : SlArg (encI .i64) (wfI .i64) 1 8 W v b) : IntsArg W v b := by
  obtain ⟨A, n, c, xs, rfl, h1, h2, h3, h4, h5, h6, h7, h8⟩ := h
  have e : xs.flatMap (encI .i64) = xs.map iv := by rw [flat_int]
  rw [e] at h7
  exact ⟨xs, ⟨A, n, c, rfl, h1, h2, h6, h7⟩, fun x hx => wf_i64 (h8 x hx), by omega, by omega⟩
def IntRowsArg (W : World) (v : Value) (b : Nat) : Prop := ∃ rs : List (List Int), RowsI W W.heap.size v rs ∧ (∀ r ∈ rs, (∀ x ∈ r, InI x) ∧ r.length < b ∧ r.length * 8 ≤ reachBytes) ∧ rs.length < b ∧ rs.length * 24 ≤ reachBytes
theorem opens_ints (W : World) : Opens Tryd.prog W 22 (SliceOf W 1 8 fun cs _ => ∃ n, cs = [.int .i64 n] ∧ wfI .i64 n) := opens_slice Tryd.underlying22 (by kernel_rfl) (by omega) (by kernel_rfl) (opens_int Tryd.underlying3)
theorem sliceOf_ints {W : World} {cs : List Value} {b : Nat} (h : SliceOf W 1 8 (fun cs _ => ∃ n, cs = [.int .i64 n] ∧ wfI .i64 n) cs b) : ∃ v, cs = [v] ∧ IntsArg W v b := by
  have h' := h
  obtain ⟨A, n, c, xs, hcs, _⟩ := h'
  refine ⟨.slice A n c, hcs, ?_⟩
  rw [hcs] at h
  exact slArg_ints (SliceOf.arg (v := .slice A n c) rfl (by omega) h fun x m ⟨z, h1, h2⟩ => ⟨z, h1, h2⟩)
theorem lists_ofI : ∀ (ys : List (Value × List Int)), ys.flatMap (fun a => [a.1]) = ys.map Prod.fst
  | [] => rfl
  | y :: ys => by simp [lists_ofI ys]
theorem sliceOf_introws {W : World} {v : Value} {b : Nat} (hv : v.cells.toList = [v]) (h : SliceOf W 1 24 (SliceOf W 1 8 fun cs _ => ∃ n, cs = [.int .i64 n] ∧ wfI .i64 n) v.cells.toList b) : IntRowsArg W v b := by
  have h2 : SliceOf W 1 24 (fun cs _ => ∃ v, cs = [v] ∧ IntsArg W v b) v.cells.toList b := by
    obtain ⟨A, n, c, xs, e0, e1, e2, e3, e4, e5, e6, e7, e8⟩ := h
    refine ⟨A, n, c, xs, e0, e1, e2, e3, e4, e5, e6, fun x hx => ?_, e8⟩
    obtain ⟨g1, m, g2, g3⟩ := e7 x hx
    obtain ⟨u, g4, r, g5, g6, g7, g8⟩ := sliceOf_ints g2
    exact ⟨g1, m, ⟨u, g4, r, g5, g6, by omega, g8⟩, g3⟩
  obtain ⟨A, n, c, ys, rfl, e1, e2, e3, e4, e5, e6, e7, e8⟩ := SliceOf.arg (α := Value × List Int) (enc := fun a => [a.1]) (Q := fun a => SlI W W.heap.size a.1 a.2 ∧ (∀ x ∈ a.2, InI x) ∧ a.2.length < b ∧ a.2.length * 8 ≤ reachBytes) hv (by omega) h2 fun x m ⟨u, g1, r, g2⟩ => ⟨(u, r), g1, g2⟩
  rw [lists_ofI] at e7
  refine ⟨ys.map Prod.snd, ⟨A, n, c, ys.map Prod.fst, rfl, by simpa using e1, e2, e6, e7, by simp, fun i u r hu hr => ?_⟩, fun r hr => ?_, by rw [List.length_map]; omega, by rw [List.length_map]; omega⟩
  · rw [List.getElem?_map] at hu hr
    cases hy : ys[i]? with
    | none => rw [hy] at hu; cases hu
    | some y =>
      rw [hy] at hu hr
      simp at hu hr
      subst hu hr
      exact (e8 y (List.mem_of_getElem? hy)).1
  · obtain ⟨y, hy, rfl⟩ := List.mem_map.1 hr
    exact (e8 y hy).2
set_option maxRecDepth 100000 in
theorem arg_intsl {H : Type} {enc : TypeId × Value → H} {W : World} {v : Value} {d : DataW H} {p : List MemPlace} {r : Reach} {b0 : Nat} (hv : Value.okWide Tryd.prog W r b0 22 v) (h : DataW.Trod enc Tryd.prog W 0 (fun _ => true) true 22 v d p)
    (hw : ∀ m ∈ d.weights Tryd.prog 22, m ≤ reachBytes) : IntsArg W v (bulk d) := slArg_ints (arg_ints Tryd.underlying22 Tryd.underlying3 (by kernel_rfl) (by kernel_rfl) hv h hw)
end Go.Proofs.YtnnbnecpcppkdaaDoor
namespace Go.Proofs.YtnnbnecpcppkdaaDoor
open Go.RowKit Go.Gy
set_option linter.unusedVariables false
theorem run_slice_to {P : Program} (t : TypeId) (s : Nat) (ht : P.underlying t = some (.slice (P.elem t))) (hs : ∀ w, (sizeOf (P.elem t)).run P w = .ok s w) (A : Option Addr) (N C k : Nat) (hk : k ≤ C) (w : World) :
    (Instr.slice t (.slice A N C) none (some (.int .i64 (k : Int))) none).run P w = .ok (.slice A k C) w := by
  rw [run_slice_h w t A N C ht .i64 k (by omega) (by omega), hs]
  simp only [Result.andThen, sliced, Nat.zero_mul, Int.toNat_natCast, Nat.sub_zero]
  split
  · rfl
  · cases A <;> rfl
section
variable {P : Program} {ops : Array Oper} {rest : List Oper} {o : Oper} {a : Act} {w : World} {Q : Exit → Act → World → Prop}
theorem wpList_slice_to (hgd : o.guard = none) (t : TypeId) (s x : Operand) (ho : o.op = .slice t s none (some x) none) (A : Option Addr) (N C k : Nat) (hs : a.eval s = .slice A N C) (hx : a.eval x = .int .i64 (k : Int))
    (hu : P.underlying t = some (.slice (P.elem t))) (hr : ∀ w, (Instr.slice t (.slice A N C) none (some (.int .i64 (k : Int))) none).run P w = .ok (.slice A k C) w)
    (h : wpList P ops Q rest (a.put o.dst (.slice A k C)) w) : wpList P ops Q (o :: rest) a w :=
  wpList_plain hgd fun _ hK => by
    unfold Oper.wp execOp
    simp only [ho, hs, hx, Option.map_none, Option.map_some, run_sliceAt_slice w t _ _ _ _ hu, hr, Sem.run_bind, Sem.run_pure, Result.andThen_ok]
    exact hK _ _ h
end
set_option maxRecDepth 100000 in
theorem size_int' (w : World) : (sizeOf (Tryd.prog.elem 22)).run Tryd.prog w = .ok 1 w := by
  obtain ⟨i, hi, _⟩ := info_parts info_int
  exact (run_sizeOf (w := w) (show Tryd.prog.info? (Tryd.prog.elem 22) = some i from hi)).trans (congrArg (fun n => Result.ok n w) (by kernel_rfl))
set_option maxRecDepth 100000 in
theorem ints_to (A : Option Addr) (N C k : Nat) (hk : k ≤ C) (w : World) : (Instr.slice 22 (.slice A N C) none (some (.int .i64 (k : Int))) none).run Tryd.prog w = .ok (.slice A k C) w :=
  run_slice_to 22 1 (by kernel_rfl) size_int' A N C k hk w
end Go.Proofs.YtnnbnecpcppkdaaDoor
