/- Maps from numbers to numbers that the call has made: map[int]int. Conditions: those typed. -/
import Derived.Test.YtpnefacignalpaaCells
import Derived.Maps.OwnSet
import Derived.Maps.Views
import Derived.Maps.OwnOps
namespace Go.Proofs.Ytpnefacignalpaa
open Go.RowKit Go.Gy Go.Maps
set_option linter.unusedVariables false
theorem intKeyed : Keyed Try.prog 3 := int_keyed Try.underlying3
abbrev litI (x : Int) : Lit := .int .i64 x
def WfI (x : Int) : Prop := (Lit.int .i64 x).wf = true
theorem WfI.of {x : Int} (h : -9223372036854775808 ≤ x ∧ x ≤ 9223372036854775807) : WfI x := WalkArith.wf_i64 (by omega)
theorem key_int {x : Int} (h : WfI x) : keyOf Try.prog 3 (.int .i64 x) = some (litI x) := keyOf_int_mk Try.underlying3 h
theorem zero_int (w : World) : (zeroValue 3).run Try.prog w = .ok (.int .i64 0) w := by kernel_rfl
theorem litI_ne {x y : Int} (h : x ≠ y) : litI x ≠ litI y := fun e => h (by injection e)
/-- block b is a map of at most n numbers: f -/
def IntM (w : World) (b n : Nat) (f : Int → Option Int) : Prop := ∃ D : DataW Unit, w.ownsMap Try.prog 3 (plainElem Try.prog 3) b n D ∧ ∀ c, WfI c → ((∃ v, f c = some v ∧ has D (litI c) = true ∧ ∀ z, D.atKey (litI c) z = .lit (.int .i64 v)) ∨ (f c = none ∧ has D (litI c) = false ∧ ∀ z, D.atKey (litI c) z = z))
theorem IntM.made (w : World) : IntM (w.alloc (.map #[] 0)) w.heap.size 0 (fun _ => none) :=
  ⟨.map [], World.ownsMap_made _ _ _ _, fun c _ => .inr ⟨rfl, rfl, fun _ => rfl⟩⟩
theorem IntM.lt {w : World} {b n : Nat} {f : Int → Option Int} (h : IntM w b n f) : b < w.heap.size := by
  obtain ⟨D, h, _⟩ := h
  exact h.lt
theorem IntM.keep {w w' : World} {b n : Nat} {f : Int → Option Int} (h : IntM w b n f) (hb : w'.heap[b]? = w.heap[b]?) : IntM w' b n f := by
  obtain ⟨D, ⟨es, clock, h1, h2⟩, h3⟩ := h
  exact ⟨D, ⟨es, clock, hb.trans h1, h2⟩, h3⟩
theorem IntM.below {w w' : World} {b n B : Nat} {f : Int → Option Int} (h : IntM w b n f) (hb : Below B w w') (hB : b < B) : IntM w' b n f := h.keep (hb.block b hB)
/-- a map's block is no row's and no box's -/
theorem IntM.noblk {w : World} {b n : Nat} {f : Int → Option Int} (h : IntM w b n f) {t : TypeId} {cs : Array Value} (hk : Blk w b t cs) : False := by
  obtain ⟨D, ⟨es, clock, h1, h2⟩, h3⟩ := h
  have := hk.symm.trans h1
  injection this with this
  injection this
theorem IntM.congr {w : World} {b n : Nat} {f g : Int → Option Int} (h : IntM w b n f) (hg : ∀ c, g c = f c) : IntM w b n g := by
  have : g = f := funext hg
  rw [this]
  exact h
section
variable {w : World} {ops : Array Oper} {rest : List Oper} {o : Oper} {a : Act} {Q : Exit → Act → World → Prop}
set_option maxRecDepth 100000 in
theorem IntM.run {b n : Nat} {f : Int → Option Int} {c : Int} {t : TypeId} (hs : IntM w b n f) (hw : WfI c) (ht : Try.prog.underlying t = some (.map 3 3)) : (Instr.lookup t (.map (some b)) (.int .i64 c) false).run Try.prog w = .ok (.int .i64 ((f c).getD 0)) w := by
  obtain ⟨D, hD, hc⟩ := hs
  obtain ⟨v, hrun, hat, _⟩ := hD.lookup_int intKeyed ht Try.underlying3 (zero_int w) (key_int hw)
  have hv : v = (f c).getD 0 := by
    rcases hc c hw with ⟨u, h1, _, h2⟩ | ⟨h1, _, h2⟩
    · rw [h2 _] at hat
      injection hat with hat
      injection hat with _ hat
      rw [h1, ← hat]
      rfl
    · rw [h2 _] at hat
      injection hat with hat
      injection hat with _ hat
      rw [h1, ← hat]
      rfl
  rw [← hv]
  exact hrun
set_option maxRecDepth 100000 in
/-- m[c] -/
theorem wpList_look_int (hg : o.guard = none) (m x : Operand) (t : TypeId) (hop : o.op = Op.lookup t m x false) (ht : Try.prog.underlying t = some (.map 3 3)) (b n : Nat) (f : Int → Option Int) (c : Int) (hw : WfI c)
    (hm : a.eval m = .map (some b)) (hx : a.eval x = .int .i64 c) (hs : IntM w b n f) (h : wpList Try.prog ops Q rest (a.put o.dst (.int .i64 ((f c).getD 0))) w) : wpList Try.prog ops Q (o :: rest) a w := by
  have hrun := hs.run hw ht
  refine wpList_plain hg fun K hK => ?_
  unfold Oper.wp
  simp [execOp, hop, hm, hx, hrun, Result.andThen]
  exact hK _ _ h
/-- m[c] behind a guard -/
theorem wpList_look_intW (hwt : Region.wanted o (yielded ops a.tmps) = true) (m x : Operand) (t : TypeId) (hop : o.op = Op.lookup t m x false) (ht : Try.prog.underlying t = some (.map 3 3)) (b n : Nat) (f : Int → Option Int) (c : Int) (hw : WfI c)
    (hm : a.eval m = .map (some b)) (hx : a.eval x = .int .i64 c) (hs : IntM w b n f) (h : wpList Try.prog ops Q rest (a.put o.dst (.int .i64 ((f c).getD 0))) w) : wpList Try.prog ops Q (o :: rest) a w := by
  have hrun := hs.run hw ht
  refine wpList_step fun _ hK => ?_
  rw [if_pos hwt]
  unfold Oper.wp
  simp [execOp, hop, hm, hx, hrun, Result.andThen]
  exact hK _ _ h
/-- v, ok := m[c] -/
theorem wpList_look_ok (hg : o.guard = none) (m x : Operand) (t : TypeId) (hop : o.op = Op.lookup t m x true) (ht : Try.prog.underlying t = some (.map 3 3)) (b n : Nat) (f : Int → Option Int) (c : Int) (hw : WfI c)
    (hm : a.eval m = .map (some b)) (hx : a.eval x = .int .i64 c) (hs : IntM w b n f) (h : wpList Try.prog ops Q rest (a.put o.dst (.tuple #[.int .i64 ((f c).getD 0), .bool (f c).isSome])) w) : wpList Try.prog ops Q (o :: rest) a w := by
  obtain ⟨D, hD, hc⟩ := hs
  refine wpList_lookup_own_ok_int w hg m x t hop 3 3 .i64 intKeyed ht Try.underlying3 (zero_int w) b n D hm hD (.int .i64 c) (litI c) hx (key_int hw) (fun v hat _ => ?_)
  have hv : v = (f c).getD 0 ∧ has D (litI c) = (f c).isSome := by
    rcases hc c hw with ⟨u, h1, h3, h2⟩ | ⟨h1, h3, h2⟩
    · rw [h2 _] at hat
      injection hat with hat
      injection hat with _ hat
      rw [h1, ← hat]
      exact ⟨rfl, h3⟩
    · rw [h2 _] at hat
      injection hat with hat
      injection hat with _ hat
      rw [h1, ← hat]
      exact ⟨rfl, h3⟩
  rw [hv.1, hv.2]
  exact h
/-- m[c] = v -/
theorem wpList_put_int (hg : o.guard = none) (m x v : Operand) (t : TypeId) (hop : o.op = Op.mapUpdate t m x v) (ht : Try.prog.underlying t = some (.map 3 3)) (b n : Nat) (hn : n < maxLen) (f : Int → Option Int) (c u : Int) (hw : WfI c) (hwu : WfI u)
    (hm : a.eval m = .map (some b)) (hx : a.eval x = .int .i64 c) (hv : a.eval v = .int .i64 u) (hs : IntM w b n f) (h : ∀ w', IntM w' b (n + 1) (fun d => if d = c then some u else f d) → w.grownBy w' (some b) → wpList Try.prog ops Q rest (a.put o.dst undef) w') : wpList Try.prog ops Q (o :: rest) a w := by
  obtain ⟨D, hD, hc⟩ := hs
  refine wpList_mapUpdate_own w hg m x v t hop 3 3 intKeyed ht _ b n D hm hD hn (.int .i64 c) (.int .i64 u) (litI c) hx hv (key_int hw) _ _ (plainElem_int Try.underlying3 hwu) fun w' h1 h2 => h w' ⟨_, h1, fun d hd => ?_⟩ h2
  by_cases hdc : d = c
  · subst hdc
    exact .inl ⟨u, if_pos rfl, has_put_same hD.isMap (intKeyed.key (key_int hd)) _, fun _ => atKey_put_same hD.isMap (intKeyed.key (key_int hd)) _ _⟩
  · rw [has_put_other (litI_ne hdc)]
    simp only [if_neg hdc]
    rcases hc d hd with ⟨v', h3, h5, h4⟩ | ⟨h3, h5, h4⟩
    · exact .inl ⟨v', h3, h5, fun z => by rw [atKey_put_other (litI_ne hdc)]; exact h4 z⟩
    · exact .inr ⟨h3, h5, fun z => by rw [atKey_put_other (litI_ne hdc)]; exact h4 z⟩
theorem wpList_look_some (hg : o.guard = none) (m x : Operand) (t : TypeId) (hop : o.op = Op.lookup t m x true) (ht : Try.prog.underlying t = some (.map 3 3)) (b n : Nat) (f : Int → Option Int) (c : Int) (hw : WfI c)
    (hm : a.eval m = .map (some b)) (hx : a.eval x = .int .i64 c) (hs : IntM w b n f) (u : Int) (hu : f c = some u) (h : wpList Try.prog ops Q rest (a.put o.dst (.tuple #[.int .i64 u, .bool true])) w) : wpList Try.prog ops Q (o :: rest) a w :=
  wpList_look_ok hg m x t hop ht b n f c hw hm hx hs (by rw [hu]; exact h)
theorem wpList_look_eq (hg : o.guard = none) (m x : Operand) (t : TypeId) (hop : o.op = Op.lookup t m x false) (ht : Try.prog.underlying t = some (.map 3 3)) (b n : Nat) (f : Int → Option Int) (c : Int) (hw : WfI c)
    (hm : a.eval m = .map (some b)) (hx : a.eval x = .int .i64 c) (hs : IntM w b n f) (u : Int) (hu : (f c).getD 0 = u) (h : wpList Try.prog ops Q rest (a.put o.dst (.int .i64 u)) w) : wpList Try.prog ops Q (o :: rest) a w :=
  wpList_look_int hg m x t hop ht b n f c hw hm hx hs (by rw [hu]; exact h)
theorem wpList_look_eqW (hwt : Region.wanted o (yielded ops a.tmps) = true) (m x : Operand) (t : TypeId) (hop : o.op = Op.lookup t m x false) (ht : Try.prog.underlying t = some (.map 3 3)) (b n : Nat) (f : Int → Option Int) (c : Int) (hw : WfI c)
    (hm : a.eval m = .map (some b)) (hx : a.eval x = .int .i64 c) (hs : IntM w b n f) (u : Int) (hu : (f c).getD 0 = u) (h : wpList Try.prog ops Q rest (a.put o.dst (.int .i64 u)) w) : wpList Try.prog ops Q (o :: rest) a w :=
  wpList_look_intW hwt m x t hop ht b n f c hw hm hx hs (by rw [hu]; exact h)
end
end Go.Proofs.Ytpnefacignalpaa
