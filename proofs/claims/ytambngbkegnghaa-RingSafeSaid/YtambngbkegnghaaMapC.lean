/- Sets of cells: map[api.Cell]bool. Conditions: those typed. -/
import Derived.Test.YtambngbkegnghaaCells
import Derived.DeepKeys4
import Derived.Maps.OwnSet
import Derived.Maps.Views
import Derived.Maps.OwnOps
namespace Go.Gy
theorem key_pair {P : Program} {t ti : TypeId} {f g : Field} (hu : P.underlying t = some (.struct #[f, g])) (hf : f.name != "_") (hg : g.name != "_") (hft : f.type = ti) (hgt : g.type = ti) (hfo : f.offset = 0) (hgo : g.offset = 1)
    (hi : P.underlying ti = some (.int .i64)) (hk : P.keyType t = true) (hc : P.cellsOf t = 2) (hci : P.cellsOf ti = 1) (hs : 0 < P.types.size) (x y : Int) (hx : (Lit.int .i64 x).wf = true) (hy : (Lit.int .i64 y).wf = true) :
    keyOf P t (.agg #[.int .i64 x, .int .i64 y]) = some (.string (keyBytes [.int .i64 x, .int .i64 y])) := by
  obtain ⟨m, hm⟩ : ∃ m, P.types.size = m + 1 := ⟨P.types.size - 1, by omega⟩
  unfold keyOf
  rw [hu]
  simp [hk, Value.formed, hc, hu, Value.cells, hm, Program.keyLits, hi, hci, hx, hy, hft, hgt, hfo, hgo, hf, hg]
end Go.Gy
namespace Go.Proofs.Ytambngbkegnghaa
open Go.RowKit Go.Gy Go.Maps Go.WideMaps
set_option linter.unusedVariables false
theorem mapLaid : laidOutB Try.prog = true := by kernel_rfl
theorem rowCell : 39 < Try.prog.types.size := of_decide_eq_true (by kernel_rfl)
theorem keyTypeCell : Try.prog.keyType 39 = true := by kernel_rfl
theorem cellsCell : Try.prog.cellsOf 39 = 2 := by kernel_rfl
theorem cellsIntM : Try.prog.cellsOf 3 = 1 := by kernel_rfl
set_option maxRecDepth 100000 in
theorem wideCell : (match Try.prog.underlying 39 with | some (.array _ _) | some (.struct _) => true | _ => false) = true := by rw [Try.underlying39]
set_option maxRecDepth 100000 in
theorem lawCell : Keyed Try.prog 39 := Keyed.of_law (deep_law_laid mapLaid (m := 2) (by omega) rowCell (by kernel_rfl) wideCell)
def litC (c : Cell) : Lit := .string (keyBytes [.int .i64 c.1, .int .i64 c.2])
def WfC (c : Cell) : Prop := (Lit.int .i64 c.1).wf = true ∧ (Lit.int .i64 c.2).wf = true
def cellV (c : Cell) : Value := .agg #[.int .i64 c.1, .int .i64 c.2]
theorem key_cell (c : Cell) (h : WfC c) : keyOf Try.prog 39 (cellV c) = some (litC c) := by
  exact key_pair Try.underlying39 (by decide) (by decide) rfl rfl rfl rfl Try.underlying3 keyTypeCell cellsCell cellsIntM (Nat.lt_of_le_of_lt (Nat.zero_le _) rowCell) c.1 c.2 h.1 h.2
theorem zero_bool (w : World) : (zeroValue 4).run Try.prog w = .ok (.bool false) w := by kernel_rfl
theorem lit_ne {c d : Cell} (hc : WfC c) (hd : WfC d) (h : c ≠ d) : litC c ≠ litC d := fun e => by
  have h1 := key_cell c hc
  have h2 := key_cell d hd
  rw [e] at h1
  have := lawCell.inj h1 h2
  unfold cellV at this
  injection this with this
  have h3 : (Value.int .i64 c.1 : Value) = .int .i64 d.1 := by have := congrArg (fun a => a[0]!) this; simpa using this
  have h4 : (Value.int .i64 c.2 : Value) = .int .i64 d.2 := by have := congrArg (fun a => a[1]!) this; simpa using this
  injection h3 with _ h3
  injection h4 with _ h4
  exact h (Prod.ext h3 h4)
abbrev falseD : DataW Unit := .lit (.bool false)
/-- block b is a set of at most n cells: those for which S holds -/
def SetM (w : World) (b n : Nat) (S : Cell → Prop) : Prop := ∃ D : DataW Unit, w.ownsMap Try.prog 39 (plainElem Try.prog 4) b n D ∧ ∀ c, WfC c → ((S c ∧ ∀ z, D.atKey (litC c) z = .lit (.bool true)) ∨ (¬ S c ∧ ∀ z, D.atKey (litC c) z = z))
theorem SetM.made (w : World) : SetM (w.alloc (.map #[] 0)) w.heap.size 0 (fun _ => False) :=
  ⟨.map [], World.ownsMap_made _ _ _ _, fun c _ => .inr ⟨id, fun _ => rfl⟩⟩
theorem SetM.lt {w : World} {b n : Nat} {S : Cell → Prop} (h : SetM w b n S) : b < w.heap.size := by
  obtain ⟨D, h, _⟩ := h
  exact h.lt
theorem SetM.below {w w' : World} {b n B : Nat} {S : Cell → Prop} (h : SetM w b n S) (hb : Below B w w') (hB : b < B) : SetM w' b n S := by
  obtain ⟨D, ⟨es, clock, h1, h2⟩, h3⟩ := h
  exact ⟨D, ⟨es, clock, (hb.block b hB).trans h1, h2⟩, h3⟩
theorem plainElem_bool_inv {P : Program} {e : TypeId} (he : P.underlying e = some .bool) {v : Value} {z : DataW Unit × List MemPlace} (h : plainElem P e v = some z) : ∃ x, v = .bool x ∧ z = (.lit (.bool x), []) := by
  unfold plainElem at h
  rw [he] at h
  cases v <;> simp at h
  subst h
  exact ⟨_, rfl, rfl⟩
section
variable {w : World} {ops : Array Oper} {rest : List Oper} {o : Oper} {a : Act} {Q : Exit → Act → World → Prop}
set_option maxRecDepth 100000 in
/-- s[c] -/
theorem wpList_look_set (hg : o.guard = none) (m x : Operand) (t : TypeId) (hop : o.op = Op.lookup t m x false) (ht : Try.prog.underlying t = some (.map 39 4)) (b n : Nat) (S : Cell → Prop) [DecidablePred S] (c : Cell) (hw : WfC c)
    (hm : a.eval m = .map (some b)) (hx : a.eval x = .agg #[.int .i64 c.1, .int .i64 c.2]) (hs : SetM w b n S) (h : wpList Try.prog ops Q rest (a.put o.dst (.bool (decide (S c)))) w) : wpList Try.prog ops Q (o :: rest) a w := by
  obtain ⟨D, hD, hc⟩ := hs
  obtain ⟨v, ps, hrun, hv⟩ := hD.lookup lawCell ht (zero_bool w) (plainElem_bool Try.underlying4 false) (key_cell c hw)
  obtain ⟨q, rfl, hq⟩ := plainElem_bool_inv Try.underlying4 hv
  injection hq with hq _
  have hqv : q = decide (S c) := by
    rcases hc c hw with ⟨h1, h2⟩ | ⟨h1, h2⟩
    · rw [h2 _] at hq
      injection hq with hq
      injection hq with hq
      rw [← hq, decide_eq_true h1]
    · rw [h2 _] at hq
      injection hq with hq
      injection hq with hq
      rw [← hq, decide_eq_false h1]
  refine wpList_plain hg fun K hK => ?_
  unfold Oper.wp
  rw [hqv] at hrun
  have hx' : a.eval x = cellV c := hx
  simp [execOp, hop, hm, hx', hrun, Result.andThen]
  exact hK _ _ h
/-- s[c] = true -/
theorem wpList_put_set (hg : o.guard = none) (m x v : Operand) (t : TypeId) (hop : o.op = Op.mapUpdate t m x v) (ht : Try.prog.underlying t = some (.map 39 4)) (b n : Nat) (hn : n < maxLen) (S : Cell → Prop) (c : Cell) (hw : WfC c)
    (hm : a.eval m = .map (some b)) (hx : a.eval x = .agg #[.int .i64 c.1, .int .i64 c.2]) (hv : a.eval v = .bool true) (hs : SetM w b n S) (h : ∀ w', SetM w' b (n + 1) (fun d => S d ∨ d = c) → w.grownBy w' (some b) → wpList Try.prog ops Q rest (a.put o.dst undef) w') : wpList Try.prog ops Q (o :: rest) a w := by
  obtain ⟨D, hD, hc⟩ := hs
  refine wpList_mapUpdate_own w hg m x v t hop 39 4 lawCell ht _ b n D hm hD hn (cellV c) (.bool true) (litC c) hx hv (key_cell c hw) _ _ (plainElem_bool Try.underlying4 true) fun w' h1 h2 => h w' ⟨_, h1, fun d hd => ?_⟩ h2
  by_cases hdc : d = c
  · subst hdc
    exact .inl ⟨.inr rfl, fun _ => atKey_put_same hD.isMap (lawCell.key (key_cell d hw)) _ _⟩
  · rcases hc d hd with ⟨h3, h4⟩ | ⟨h3, h4⟩
    · exact .inl ⟨.inl h3, fun z => by rw [atKey_put_other (lit_ne hd hw hdc)]; exact h4 z⟩
    · exact .inr ⟨(fun h5 => by rcases h5 with h5 | h5; exact h3 h5; exact hdc h5), fun z => by rw [atKey_put_other (lit_ne hd hw hdc)]; exact h4 z⟩
end
theorem onC_wf {c : Cell} (h : (-64 ≤ c.1 ∧ c.1 < 64) ∧ (-64 ≤ c.2 ∧ c.2 < 64)) : WfC c := by
  unfold WfC
  constructor <;> exact WalkArith.wf_i64 (by omega)
end Go.Proofs.Ytambngbkegnghaa
