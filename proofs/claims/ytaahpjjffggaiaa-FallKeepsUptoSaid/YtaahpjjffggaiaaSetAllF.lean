/- Sets of cells: map[api.Cell]bool. gantref5.SetOf. Sets of cells whose size is known: put, delete, look up, length. (gantref5.Set).List. Conditions: those typed. -/
import Derived.Test.YtaahpjjffggaiaaCells
import Derived.DeepKeys4
import Derived.Maps.OwnSet
import Derived.Maps.Views
import Derived.Maps.OwnOps
import Derived.Test.YtaahpjjffggaiaaCellSl
import Derived.Maps.RangeWalk
import Derived.Test.YtaahpjjffggaiaaMakeCells
namespace Go.Gy
theorem key_pair {P : Program} {t ti : TypeId} {f g : Field} (hu : P.underlying t = some (.struct #[f, g])) (hf : f.name != "_") (hg : g.name != "_") (hft : f.type = ti) (hgt : g.type = ti) (hfo : f.offset = 0) (hgo : g.offset = 1)
    (hi : P.underlying ti = some (.int .i64)) (hk : P.keyType t = true) (hc : P.cellsOf t = 2) (hci : P.cellsOf ti = 1) (hs : 0 < P.types.size) (x y : Int) (hx : (Lit.int .i64 x).wf = true) (hy : (Lit.int .i64 y).wf = true) :
    keyOf P t (.agg #[.int .i64 x, .int .i64 y]) = some (.string (keyBytes [.int .i64 x, .int .i64 y])) := by
  obtain ⟨m, hm⟩ : ∃ m, P.types.size = m + 1 := ⟨P.types.size - 1, by omega⟩
  unfold keyOf
  rw [hu]
  simp [hk, Value.formed, hc, hu, Value.cells, hm, Program.keyLits, hi, hci, hx, hy, hft, hgt, hfo, hgo, hf, hg]
end Go.Gy
namespace Go.Proofs.Ytaahpjjffggaiaa
open Go.RowKit Go.Gy Go.Maps Go.WideMaps
set_option linter.unusedVariables false
theorem mapLaid : laidOutB Try.prog = true := by kernel_rfl
theorem rowCell : 24 < Try.prog.types.size := of_decide_eq_true (by kernel_rfl)
theorem keyTypeCell : Try.prog.keyType 24 = true := by kernel_rfl
theorem cellsCell : Try.prog.cellsOf 24 = 2 := by kernel_rfl
theorem cellsIntM : Try.prog.cellsOf 3 = 1 := by kernel_rfl
set_option maxRecDepth 100000 in
theorem wideCell : (match Try.prog.underlying 24 with | some (.array _ _) | some (.struct _) => true | _ => false) = true := by rw [Try.underlying24]
set_option maxRecDepth 100000 in
theorem lawCell : Keyed Try.prog 24 := Keyed.of_law (deep_law_laid mapLaid (m := 2) (by omega) rowCell (by kernel_rfl) wideCell)
def litC (c : Cell) : Lit := .string (keyBytes [.int .i64 c.1, .int .i64 c.2])
def WfC (c : Cell) : Prop := (Lit.int .i64 c.1).wf = true ∧ (Lit.int .i64 c.2).wf = true
def cellV (c : Cell) : Value := .agg #[.int .i64 c.1, .int .i64 c.2]
theorem key_cell (c : Cell) (h : WfC c) : keyOf Try.prog 24 (cellV c) = some (litC c) := by
  exact key_pair Try.underlying24 (by decide) (by decide) rfl rfl rfl rfl Try.underlying3 keyTypeCell cellsCell cellsIntM (Nat.lt_of_le_of_lt (Nat.zero_le _) rowCell) c.1 c.2 h.1 h.2
theorem zero_bool (w : World) : (zeroValue 4).run Try.prog w = .ok (.bool false) w := by kernel_rfl
theorem lit_ne {c d : Cell} (hc : WfC c) (hd : WfC d) (h : c ≠ d) : litC c ≠ litC d := fun e => by
  have h1 := key_cell c hc
  have h2 := key_cell d hd
  rw [e] at h1
  have := lawCell.inj h1 h2
  unfold cellV at this
  injection this with this
  have h3 : (Value.int .i64 c.1 : Value) = .int .i64 d.1 := by have := congrArg (fun a => a[0]!) this; simpa using this
  have h4 : (Value.int .i64 c.2 : Value) = .int .i64 d.2 := by have := congrArg (fun a => a[1]!) this; simpa using this
  injection h3 with _ h3
  injection h4 with _ h4
  exact h (Prod.ext h3 h4)
abbrev falseD : DataW Unit := .lit (.bool false)
/-- block b is a set of at most n cells: those for which S holds -/
def SetM (w : World) (b n : Nat) (S : Cell → Prop) : Prop := ∃ D : DataW Unit, w.ownsMap Try.prog 24 (plainElem Try.prog 4) b n D ∧ ∀ c, WfC c → ((S c ∧ ∀ z, D.atKey (litC c) z = .lit (.bool true)) ∨ (¬ S c ∧ ∀ z, D.atKey (litC c) z = z))
theorem SetM.made (w : World) : SetM (w.alloc (.map #[] 0)) w.heap.size 0 (fun _ => False) :=
  ⟨.map [], World.ownsMap_made _ _ _ _, fun c _ => .inr ⟨id, fun _ => rfl⟩⟩
theorem SetM.lt {w : World} {b n : Nat} {S : Cell → Prop} (h : SetM w b n S) : b < w.heap.size := by
  obtain ⟨D, h, _⟩ := h
  exact h.lt
theorem SetM.below {w w' : World} {b n B : Nat} {S : Cell → Prop} (h : SetM w b n S) (hb : Below B w w') (hB : b < B) : SetM w' b n S := by
  obtain ⟨D, ⟨es, clock, h1, h2⟩, h3⟩ := h
  exact ⟨D, ⟨es, clock, (hb.block b hB).trans h1, h2⟩, h3⟩
theorem plainElem_bool_inv {P : Program} {e : TypeId} (he : P.underlying e = some .bool) {v : Value} {z : DataW Unit × List MemPlace} (h : plainElem P e v = some z) : ∃ x, v = .bool x ∧ z = (.lit (.bool x), []) := by
  unfold plainElem at h
  rw [he] at h
  cases v <;> simp at h
  subst h
  exact ⟨_, rfl, rfl⟩
section
variable {w : World} {ops : Array Oper} {rest : List Oper} {o : Oper} {a : Act} {Q : Exit → Act → World → Prop}
set_option maxRecDepth 100000 in
/-- s[c] -/
theorem wpList_look_set (hg : o.guard = none) (m x : Operand) (t : TypeId) (hop : o.op = Op.lookup t m x false) (ht : Try.prog.underlying t = some (.map 24 4)) (b n : Nat) (S : Cell → Prop) [DecidablePred S] (c : Cell) (hw : WfC c)
    (hm : a.eval m = .map (some b)) (hx : a.eval x = .agg #[.int .i64 c.1, .int .i64 c.2]) (hs : SetM w b n S) (h : wpList Try.prog ops Q rest (a.put o.dst (.bool (decide (S c)))) w) : wpList Try.prog ops Q (o :: rest) a w := by
  obtain ⟨D, hD, hc⟩ := hs
  obtain ⟨v, ps, hrun, hv⟩ := hD.lookup lawCell ht (zero_bool w) (plainElem_bool Try.underlying4 false) (key_cell c hw)
  obtain ⟨q, rfl, hq⟩ := plainElem_bool_inv Try.underlying4 hv
  injection hq with hq _
  have hqv : q = decide (S c) := by
    rcases hc c hw with ⟨h1, h2⟩ | ⟨h1, h2⟩
    · rw [h2 _] at hq
      injection hq with hq
      injection hq with hq
      rw [← hq, decide_eq_true h1]
    · rw [h2 _] at hq
      injection hq with hq
      injection hq with hq
      rw [← hq, decide_eq_false h1]
  refine wpList_plain hg fun K hK => ?_
  unfold Oper.wp
  rw [hqv] at hrun
  have hx' : a.eval x = cellV c := hx
  simp [execOp, hop, hm, hx', hrun, Result.andThen]
  exact hK _ _ h
/-- s[c] = true -/
theorem wpList_put_set (hg : o.guard = none) (m x v : Operand) (t : TypeId) (hop : o.op = Op.mapUpdate t m x v) (ht : Try.prog.underlying t = some (.map 24 4)) (b n : Nat) (hn : n < maxLen) (S : Cell → Prop) (c : Cell) (hw : WfC c)
    (hm : a.eval m = .map (some b)) (hx : a.eval x = .agg #[.int .i64 c.1, .int .i64 c.2]) (hv : a.eval v = .bool true) (hs : SetM w b n S) (h : ∀ w', SetM w' b (n + 1) (fun d => S d ∨ d = c) → w.grownBy w' (some b) → wpList Try.prog ops Q rest (a.put o.dst undef) w') : wpList Try.prog ops Q (o :: rest) a w := by
  obtain ⟨D, hD, hc⟩ := hs
  refine wpList_mapUpdate_own w hg m x v t hop 24 4 lawCell ht _ b n D hm hD hn (cellV c) (.bool true) (litC c) hx hv (key_cell c hw) _ _ (plainElem_bool Try.underlying4 true) fun w' h1 h2 => h w' ⟨_, h1, fun d hd => ?_⟩ h2
  by_cases hdc : d = c
  · subst hdc
    exact .inl ⟨.inr rfl, fun _ => atKey_put_same hD.isMap (lawCell.key (key_cell d hw)) _ _⟩
  · rcases hc d hd with ⟨h3, h4⟩ | ⟨h3, h4⟩
    · exact .inl ⟨.inl h3, fun z => by rw [atKey_put_other (lit_ne hd hw hdc)]; exact h4 z⟩
    · exact .inr ⟨(fun h5 => by rcases h5 with h5 | h5; exact h3 h5; exact hdc h5), fun z => by rw [atKey_put_other (lit_ne hd hw hdc)]; exact h4 z⟩
end
theorem onC_wf {c : Cell} (h : (-64 ≤ c.1 ∧ c.1 < 64) ∧ (-64 ≤ c.2 ∧ c.2 < 64)) : WfC c := by
  unfold WfC
  constructor <;> exact WalkArith.wf_i64 (by omega)
end Go.Proofs.Ytaahpjjffggaiaa
namespace Go.Proofs.Ytaahpjjffggaiaa
open Go.RowKit Go.Gy Go.Maps Go.WideMaps
set_option linter.unusedVariables false
theorem SetM.congr {w : World} {b n n' : Nat} {S T : Cell → Prop} (h : SetM w b n S) (hn : n ≤ n') (hc : ∀ c, S c ↔ T c) : SetM w b n' T := by
  obtain ⟨D, h1, h2⟩ := h
  exact ⟨D, h1.mono hn, fun c hw => by rw [← hc c]; exact h2 c hw⟩
theorem key_pair_inv {P : Program} {t ti : TypeId} {f g : Field} (hu : P.underlying t = some (.struct #[f, g])) (hf : f.name != "_") (hg : g.name != "_") (hft : f.type = ti) (hgt : g.type = ti) (hfo : f.offset = 0) (hgo : g.offset = 1)
    (hi : P.underlying ti = some (.int .i64)) (hk : P.keyType t = true) (hc : P.cellsOf t = 2) (hci : P.cellsOf ti = 1) (hs : 0 < P.types.size) {v : Value} {kl : Lit} (h : keyOf P t v = some kl) :
    ∃ x y, v = .agg #[.int .i64 x, .int .i64 y] ∧ (Lit.int .i64 x).wf = true ∧ (Lit.int .i64 y).wf = true := by
  obtain ⟨m, hm⟩ : ∃ m, P.types.size = m + 1 := ⟨P.types.size - 1, by omega⟩
  unfold keyOf at h
  rw [hu] at h
  simp only [hk, Bool.true_and, hm] at h
  split at h
  · rename_i hfm
    cases v <;> simp [Value.formed, hu, hc] at hfm
    rename_i cs
    obtain ⟨a, b, rfl⟩ : ∃ a b, cs = #[a, b] := by
      have h2 : cs.size = 2 := hfm
      refine ⟨cs[0], cs[1], ?_⟩
      apply Array.ext
      · simp [h2]
      · intro i h3 h4
        have : i = 0 ∨ i = 1 := by simp at h4; omega
        rcases this with rfl | rfl <;> rfl
    unfold Program.keyLits at h
    simp [Value.cells, hu, hc, hf, hg, hft, hgt, hfo, hgo, hci] at h
    have key : ∀ (v : Value) l, P.keyLits (m + 1) ti [v] = some l → ∃ x, v = .int .i64 x ∧ (Lit.int .i64 x).wf = true := by
      intro v l hv
      simp only [Program.keyLits, hi] at hv
      cases v <;> simp at hv
      obtain ⟨⟨rfl, hw⟩, _⟩ := hv
      exact ⟨_, rfl, hw⟩
    cases ha : P.keyLits (m + 1) ti [a] with
    | none => rw [ha] at h; simp at h
    | some la =>
      cases hb : P.keyLits (m + 1) ti [b] with
      | none => rw [ha, hb] at h; simp at h
      | some lb =>
        obtain ⟨x, rfl, hx⟩ := key _ _ ha
        obtain ⟨y, rfl, hy⟩ := key _ _ hb
        exact ⟨x, y, rfl, hx, hy⟩
  · cases h
theorem key_cell_inv {v : Value} {kl : Lit} (h : keyOf Try.prog 24 v = some kl) : ∃ c, v = cellV c ∧ WfC c ∧ kl = litC c := by
  obtain ⟨x, y, rfl, hx, hy⟩ := key_pair_inv Try.underlying24 (by decide) (by decide) rfl rfl rfl rfl Try.underlying3 keyTypeCell cellsCell cellsIntM (Nat.lt_of_le_of_lt (Nat.zero_le _) rowCell) h
  refine ⟨(x, y), rfl, ⟨hx, hy⟩, ?_⟩
  have := key_cell (x, y) ⟨hx, hy⟩
  exact Option.some.inj (h.symm.trans this)
def SetPost (w : World) (l : List Cell) (e : Ending) (w' : World) : Prop := ∃ b, e = .returned (.map (some b)) ∧ w.heap.size ≤ b ∧ SetM w' b l.length (· ∈ l) ∧ Below w.heap.size w w'
set_option maxRecDepth 100000 in
set_option maxHeartbeats 2000000 in
theorem setof_any (w : World) (v : Value) (l : List Cell) (hv : SlC w w.heap.size v l) (hon : ∀ c ∈ l, WfC c) (hl : l.length ≤ 100000) :
    Calls Try.prog 62 #[v] w (SetPost w l) := by
  obtain ⟨A, n, c, rfl, hln, hnc, hA, hr⟩ := hv
  have hmm := @run_makeMap Try.prog
  have Hr := Lib.hid hr
  have Hln := Lib.hid hln
  have Hon := Lib.hid hon
  rw [hln] at hl
  have HR0 := Lib.hid (show SetM (w.alloc (.map #[] 0)) w.heap.size 0 (· ∈ l.take 0) ∧ Below w.heap.size w (w.alloc (.map #[] 0)) from ⟨SetM.congr (SetM.made w) (Nat.le_refl _) (fun c => by simp), (Below.refl _ _).alloc (Nat.le_refl _) _⟩)
  clear hr hln hon
  go_enter Try.func62, Try.ntmps62
  go_wp2_with fail
  go_loopw [9] (fun i wr => ∃ k : Nat, k ≤ n ∧ i = .int .i64 (k : Int) ∧ SetM wr w.heap.size k (· ∈ l.take k) ∧ Below w.heap.size w wr) (fun i _ => n - (intOf i).toNat)
  case atStart => exact ⟨0, Nat.zero_le _, rfl, HR0.out⟩
  case round =>
    obtain ⟨k, hk, rfl, hs, hb⟩ := hrel
    have Hs := Lib.hid hs
    have Hb := Lib.hid hb
    by_cases hkn : k < n
    · obtain ⟨b, o, x, rfl, hbB, hxx, hcs⟩ := (Hr.out.below hb).elem encC_len Hln.out hkn
      obtain ⟨x, y⟩ := x
      have e0 : wr.cell? ⟨b, o + k * 2, none⟩ = some (.int .i64 x) := hcs 0 _ rfl
      have e1 : wr.cell? ⟨b, o + k * 2 + 1, none⟩ = some (.int .i64 y) := hcs 1 _ rfl
      have Hw := Lib.hid (Hon.out (x, y) (List.mem_of_getElem? hxx))
      have Hx := Lib.hid hxx
      have HsA := Lib.hid (fun X => hs.below ((Below.refl wr.heap.size wr).alloc (Nat.le_refl _) X) hs.lt)
      have HbA := Lib.hid (fun X => hb.alloc hb.size X)
      have HN := Lib.hid (show k < maxLen by unfold maxLen; omega)
      clear hs hb hcs hxx hbB
      go_wp2_with (at_mapUpdate; refine wpList_put_set rfl _ _ _ _ rfl Try.underlying105 w.heap.size k HN.out (· ∈ l.take k) (x, y) Hw.out rfl rfl rfl (HsA.out _) ?_; intro w6 hs6 hg6; have HR6 := Lib.hid (show SetM w6 w.heap.size (k + 1) (· ∈ l.take (k + 1)) ∧ Below w.heap.size w w6 from ⟨SetM.congr hs6 (Nat.le_refl _) (fun c => by rw [List.take_add_one, Hx.out, List.mem_append]; simp), (HbA.out _).grown hg6 (HbA.out _).size (fun g hg => by injection hg with hg; omega)⟩); clear hs6 hg6)
      go_roundw
      case rel => exact ⟨k + 1, by omega, by go_num, HR6.out⟩
      case measure => simp [intOf]; omega
    · obtain rfl : k = n := by omega
      have HP := Lib.hid (show SetPost w l (.returned (.map (some w.heap.size))) wr from ⟨_, rfl, Nat.le_refl _, by
        rw [Hln.out]
        rw [List.take_of_length_le (by rw [Hln.out]; exact Nat.le_refl _)] at hs
        exact hs, hb⟩)
      clear hs hb
      go_wp2_with fail
      go_ret
      exact HP.out
section
variable {w : World} {ops : Array Oper} {rest : List Oper} {o : Oper} {a : Act} {Q : Exit → Act → World → Prop}
set_option maxRecDepth 100000 in
/-- the step of a range loop over a set -/
theorem wpList_next_set (hg : o.guard = none) (it : Operand) (hop : o.op = Op.next it false) (b r n : Nat) (D : DataW Unit) (left : Lit → Bool) (cnt : Nat) (l : List Cell)
    (hc : ∀ c, WfC c → ((c ∈ l ∧ ∀ z, D.atKey (litC c) z = .lit (.bool true)) ∨ (¬ c ∈ l ∧ ∀ z, D.atKey (litC c) z = z)))
    (hit : a.eval it = .pointer (some ⟨r, 0, none⟩)) (h : w.ranges Try.prog 24 (plainElem Try.prog 4) b r n D left cnt)
    (hDone : cnt = 0 → (∀ kl, left kl = false) → wpList Try.prog ops Q rest (a.put o.dst (.tuple #[.bool false])) w)
    (hMore : ∀ (x y : Int) (w' : World) (cnt' : Nat), Hid (WfC (x, y) ∧ (x, y) ∈ l ∧ left (litC (x, y)) = true) → Hid (w'.ranges Try.prog 24 (plainElem Try.prog 4) b r n D (fun z => left z && !z.sameKey (litC (x, y))) cnt' ∧ cnt' < cnt ∧ w.grownBy w' (some r)) →
      w'.heap.size = w.heap.size → (Instr.entry (.pointer (some ⟨r, 0, none⟩))).run Try.prog w' = .ok (.tuple #[.agg #[.int .i64 x, .int .i64 y], .bool true]) w' → wpList Try.prog ops Q rest (a.put o.dst (.tuple #[.bool true, .agg #[.int .i64 x, .int .i64 y], .bool true])) w') :
    wpList Try.prog ops Q (o :: rest) a w := by
  refine wpList_next_ranges w hg it hop 24 lawCell (plainElem Try.prog 4) cellV Value.bool (fun key kl h => by obtain ⟨c, h1, _⟩ := key_cell_inv h; exact ⟨c, h1⟩) (fun v y h => by obtain ⟨q, h1, _⟩ := plainElem_bool_inv Try.underlying4 h; exact ⟨q, h1⟩) b r n D left cnt hit h hDone ?_
  intro x q kl y w' cnt' hkey hlk hv hat hrg hlt hgr hsz hen
  obtain ⟨c, h1, h2, h3⟩ := key_cell_inv hkey
  have hxc : x = c := by
    unfold cellV at h1
    injection h1 with h1
    have h4 : (Value.int .i64 x.1 : Value) = .int .i64 c.1 := by have := congrArg (fun a => a[0]!) h1; simpa using this
    have h5 : (Value.int .i64 x.2 : Value) = .int .i64 c.2 := by have := congrArg (fun a => a[1]!) h1; simpa using this
    injection h4 with _ h4
    injection h5 with _ h5
    exact Prod.ext h4 h5
  subst hxc
  subst h3
  obtain ⟨q', e1, e2⟩ := plainElem_bool_inv Try.underlying4 hv
  injection e1 with e1
  subst e1
  have hS : x ∈ l ∧ q = true := by
    rcases hc x h2 with ⟨h4, h5⟩ | ⟨h4, h5⟩
    · have h6 := (h5 .nil).symm.trans (hat .nil)
      rw [e2] at h6
      injection h6 with h6
      injection h6 with h6
      exact ⟨h4, h6.symm⟩
    · have h6 := (h5 .nil).symm.trans (hat .nil)
      rw [e2] at h6
      cases h6
  obtain ⟨hS, rfl⟩ := hS
  obtain ⟨x1, x2⟩ := x
  exact hMore x1 x2 w' cnt' (Lib.hid ⟨h2, hS, hlk⟩) (Lib.hid ⟨hrg, hlt, hgr⟩) hsz hen
end
end Go.Proofs.Ytaahpjjffggaiaa
namespace Go.Proofs.Ytaahpjjffggaiaa
open Go.RowKit Go.Gy Go.Maps Go.WideMaps
set_option linter.unusedVariables false
/-- block b is the set of the cells of L -/
def SetL (w : World) (b : Nat) (L : List Cell) : Prop := L.Nodup ∧ (∀ c ∈ L, WfC c) ∧ ∃ D : DataW Unit, w.ownsMap Try.prog 24 (plainElem Try.prog 4) b L.length D ∧ Maps.size D = L.length ∧ ∀ c, WfC c → ((c ∈ L ∧ ∀ z, D.atKey (litC c) z = .lit (.bool true)) ∨ (c ∉ L ∧ ∀ z, D.atKey (litC c) z = z))
theorem SetL.setM {w : World} {b : Nat} {L : List Cell} (h : SetL w b L) : SetM w b L.length (· ∈ L) := by
  obtain ⟨_, _, D, h1, _, h2⟩ := h
  exact ⟨D, h1, h2⟩
theorem SetL.lt {w : World} {b : Nat} {L : List Cell} (h : SetL w b L) : b < w.heap.size := h.setM.lt
theorem SetL.nodup {w : World} {b : Nat} {L : List Cell} (h : SetL w b L) : L.Nodup := h.1
theorem SetL.wf {w : World} {b : Nat} {L : List Cell} (h : SetL w b L) : ∀ c ∈ L, WfC c := h.2.1
theorem SetL.below {w w' : World} {b B : Nat} {L : List Cell} (h : SetL w b L) (hb : Below B w w') (hB : b < B) : SetL w' b L := by
  obtain ⟨h1, h2, D, ⟨es, clock, h3, h4⟩, h5, h6⟩ := h
  exact ⟨h1, h2, D, ⟨es, clock, (hb.block b hB).trans h3, h4⟩, h5, h6⟩
theorem SetL.kept {w w' : World} {b : Nat} {row : Option Nat} {L : List Cell} (h : SetL w b L) (hg : w.grownBy w' row) (hne : some b ≠ row) : SetL w' b L := by
  obtain ⟨h1, h2, D, h3, h5, h6⟩ := h
  exact ⟨h1, h2, D, h3.kept hg hne, h5, h6⟩
theorem SetL.made (w : World) : SetL (w.alloc (.map #[] 0)) w.heap.size [] :=
  ⟨List.nodup_nil, fun c hc => by simp at hc, .map [], World.ownsMap_made _ _ _ _, rfl, fun c _ => .inr ⟨by simp, fun _ => rfl⟩⟩
theorem owns_fit {w : World} {b n : Nat} {D : DataW Unit} (h : w.ownsMap Try.prog 24 (plainElem Try.prog 4) b n D) : w.ownsMap Try.prog 24 (plainElem Try.prog 4) b (Maps.size D) D := by
  obtain ⟨es, clock, hb, F, hs, rfl⟩ := h
  refine ⟨es, clock, hb, F, ?_, rfl⟩
  simp [Maps.size, length_sorted]
def addC (L : List Cell) (c : Cell) : List Cell := if c ∈ L then L else L ++ [c]
def delC (L : List Cell) (c : Cell) : List Cell := L.filter fun x => !decide (x = c)
theorem mem_addC {L : List Cell} {c x : Cell} : x ∈ addC L c ↔ x ∈ L ∨ x = c := by
  unfold addC
  split
  · rename_i h
    constructor
    · exact .inl
    · rintro (h1 | rfl)
      · exact h1
      · exact h
  · simp
theorem mem_delC {L : List Cell} {c x : Cell} : x ∈ delC L c ↔ x ∈ L ∧ x ≠ c := by
  unfold delC
  simp
theorem nodup_addC {L : List Cell} {c : Cell} (h : L.Nodup) : (addC L c).Nodup := by
  unfold addC
  split
  · exact h
  · rename_i hc
    rw [List.nodup_append]
    exact ⟨h, by simp, fun a ha b hb => by simp at hb; subst hb; exact fun e => hc (e ▸ ha)⟩
theorem nodup_delC {L : List Cell} {c : Cell} (h : L.Nodup) : (delC L c).Nodup := h.filter _
theorem delC_len {L : List Cell} {c : Cell} (h : L.Nodup) : (delC L c).length + (if c ∈ L then 1 else 0) = L.length := by
  induction L with
  | nil => simp [delC]
  | cons x L ih =>
    obtain ⟨h1, h2⟩ := List.nodup_cons.1 h
    have ih := ih h2
    unfold delC at ih ⊢
    by_cases hx : x = c
    · subst hx
      rw [List.filter_cons_of_neg (by simp)]
      rw [if_neg h1] at ih
      rw [if_pos (by simp), List.length_cons]; omega
    · rw [List.filter_cons_of_pos (by simpa using hx)]
      simp only [List.mem_cons, List.length_cons]
      by_cases hc : c ∈ L
      · rw [if_pos hc] at ih; rw [if_pos (.inr hc)]; omega
      · rw [if_neg hc] at ih; rw [if_neg (fun e => by rcases e with e | e; exact hx e.symm; exact hc e)]; omega
theorem perm_of_mem {L M : List Cell} (h1 : L.Nodup) (h2 : M.Nodup) (h : ∀ x, x ∈ L ↔ x ∈ M) : L.length = M.length := by
  induction L generalizing M with
  | nil =>
    cases M with
    | nil => rfl
    | cons y M => exact absurd ((h y).2 (by simp)) (by simp)
  | cons x L ih =>
    obtain ⟨h3, h4⟩ := List.nodup_cons.1 h1
    have hx : x ∈ M := (h x).1 (by simp)
    have h5 := delC_len (c := x) h2
    rw [if_pos hx] at h5
    have h6 := ih (M := delC M x) h4 (nodup_delC h2) (fun y => by
      rw [mem_delC]
      constructor
      · intro hy; exact ⟨(h y).1 (by simp [hy]), fun e => h3 (e ▸ hy)⟩
      · rintro ⟨hy, hne⟩
        have := (h y).2 hy
        rw [List.mem_cons] at this
        rcases this with e | e
        · exact absurd e hne
        · exact e)
    simp; omega
section
variable {w : World} {ops : Array Oper} {rest : List Oper} {o : Oper} {a : Act} {Q : Exit → Act → World → Prop}
set_option maxRecDepth 100000 in
/-- s[c] = true -/
theorem wpList_put_l (hg : o.guard = none) (m x v : Operand) (t : TypeId) (hop : o.op = Op.mapUpdate t m x v) (ht : Try.prog.underlying t = some (.map 24 4)) (b : Nat) (L : List Cell) (hn : L.length < maxLen) (c : Cell) (hw : WfC c)
    (hm : a.eval m = .map (some b)) (hx : a.eval x = .agg #[.int .i64 c.1, .int .i64 c.2]) (hv : a.eval v = .bool true) (hs : SetL w b L) (h : ∀ w', SetL w' b (addC L c) → w.grownBy w' (some b) → wpList Try.prog ops Q rest (a.put o.dst undef) w') : wpList Try.prog ops Q (o :: rest) a w := by
  obtain ⟨hnd, hwf, D, hD, hsz, hc⟩ := hs
  refine wpList_mapUpdate_own w hg m x v t hop 24 4 lawCell ht _ b L.length D hm hD hn (cellV c) (.bool true) (litC c) hx hv (key_cell c hw) _ _ (plainElem_bool Try.underlying4 true) fun w' h1 h2 => h w' ?_ h2
  have hlen : Maps.size (D.put (litC c) (.lit (.bool true))) = (addC L c).length := by
    rw [size_put (hD.tidy lawCell)]
    unfold addC
    rcases hc c hw with ⟨h3, h4⟩ | ⟨h3, h4⟩
    · rw [has_true_of_atKey h4, if_pos rfl, if_pos h3]; exact hsz
    · rw [has_false_of_atKey h4, if_neg h3]; simp; exact hsz
  refine ⟨nodup_addC hnd, fun d hd => ?_, _, by have := owns_fit h1; rw [hlen] at this; exact this, hlen, fun d hd => ?_⟩
  · rcases mem_addC.1 hd with hd | rfl
    · exact hwf d hd
    · exact hw
  · by_cases hdc : d = c
    · subst hdc
      exact .inl ⟨mem_addC.2 (.inr rfl), fun _ => atKey_put_same hD.isMap (lawCell.key (key_cell d hw)) _ _⟩
    · rcases hc d hd with ⟨h3, h4⟩ | ⟨h3, h4⟩
      · exact .inl ⟨mem_addC.2 (.inl h3), fun z => by rw [atKey_put_other (lit_ne hd hw hdc)]; exact h4 z⟩
      · exact .inr ⟨(fun h5 => by rcases mem_addC.1 h5 with h5 | h5; exact h3 h5; exact hdc h5), fun z => by rw [atKey_put_other (lit_ne hd hw hdc)]; exact h4 z⟩
set_option maxRecDepth 100000 in
/-- delete(s, c) -/
theorem wpList_del_l (hg : o.guard = none) (m x : Operand) (t : TypeId) (hop : o.op = Op.call { callee := Callee.builtin Builtin.delete, args := #[m, x], argTypes := #[t, 24] }) (ht : Try.prog.underlying t = some (.map 24 4)) (b : Nat) (L : List Cell) (c : Cell) (hw : WfC c)
    (hm : a.eval m = .map (some b)) (hx : a.eval x = .agg #[.int .i64 c.1, .int .i64 c.2]) (hs : SetL w b L) (h : ∀ w', SetL w' b (delC L c) → w.grownBy w' (some b) → wpList Try.prog ops Q rest (a.put o.dst (.tuple #[])) w') : wpList Try.prog ops Q (o :: rest) a w := by
  obtain ⟨hnd, hwf, D, hD, hsz, hc⟩ := hs
  refine wpList_delete_own w hg m x t 24 hop 4 lawCell ht _ b L.length D hm hD (cellV c) (litC c) hx (key_cell c hw) fun w' h1 h2 => h w' ?_ h2.grown
  have hlen : Maps.size (D.del (litC c)) = (delC L c).length := by
    have e1 := size_del (k := litC c) (hD.tidy lawCell)
    have e2 := delC_len (c := c) hnd
    rcases hc c hw with ⟨h3, h4⟩ | ⟨h3, h4⟩
    · rw [has_true_of_atKey h4, if_pos rfl] at e1; rw [if_pos h3] at e2; omega
    · rw [has_false_of_atKey h4] at e1; rw [if_neg h3] at e2; simp at e1; omega
  refine ⟨nodup_delC hnd, fun d hd => hwf d (mem_delC.1 hd).1, _, by have := owns_fit h1; rw [hlen] at this; exact this, hlen, fun d hd => ?_⟩
  by_cases hdc : d = c
  · subst hdc
    exact .inr ⟨fun h5 => (mem_delC.1 h5).2 rfl, fun _ => atKey_del_same _⟩
  · rcases hc d hd with ⟨h3, h4⟩ | ⟨h3, h4⟩
    · exact .inl ⟨mem_delC.2 ⟨h3, hdc⟩, fun z => by rw [atKey_del_other (lit_ne hd hw hdc)]; exact h4 z⟩
    · exact .inr ⟨fun h5 => h3 (mem_delC.1 h5).1, fun z => by rw [atKey_del_other (lit_ne hd hw hdc)]; exact h4 z⟩
set_option maxRecDepth 100000 in
/-- len(s) -/
theorem wpList_len_l (hg : o.guard = none) (m : Operand) (t : TypeId) (hop : o.op = Op.call { callee := Callee.builtin Builtin.len, args := #[m], argTypes := #[t] }) (ht : Try.prog.underlying t = some (.map 24 4)) (b : Nat) (L : List Cell)
    (hm : a.eval m = .map (some b)) (hs : SetL w b L) (h : wpList Try.prog ops Q rest (a.put o.dst (.int .i64 (L.length : Nat))) w) : wpList Try.prog ops Q (o :: rest) a w := by
  obtain ⟨hnd, hwf, D, hD, hsz, hc⟩ := hs
  refine wpList_len_own w hg m t hop 24 4 ht _ b L.length D hm hD ?_
  rw [hsz]; exact h
set_option maxRecDepth 100000 in
/-- s[c], the size known -/
theorem wpList_look_l (hg : o.guard = none) (m x : Operand) (t : TypeId) (hop : o.op = Op.lookup t m x false) (ht : Try.prog.underlying t = some (.map 24 4)) (b : Nat) (L : List Cell) (c : Cell) (hw : WfC c)
    (hm : a.eval m = .map (some b)) (hx : a.eval x = .agg #[.int .i64 c.1, .int .i64 c.2]) (hs : SetL w b L) (h : wpList Try.prog ops Q rest (a.put o.dst (.bool (decide (c ∈ L)))) w) : wpList Try.prog ops Q (o :: rest) a w :=
  wpList_look_set hg m x t hop ht b L.length (· ∈ L) c hw hm hx hs.setM h
end
def SetLPost (w : World) (l : List Cell) (e : Ending) (w' : World) : Prop := ∃ b, e = .returned (.map (some b)) ∧ w.heap.size ≤ b ∧ SetL w' b l ∧ Below w.heap.size w w'
set_option maxRecDepth 100000 in
set_option maxHeartbeats 2000000 in
theorem setofl_any (w : World) (v : Value) (l : List Cell) (hv : SlC w w.heap.size v l) (hon : ∀ c ∈ l, WfC c) (hl : l.length ≤ 100000) (hnd : l.Nodup) :
    Calls Try.prog 62 #[v] w (SetLPost w l) := by
  obtain ⟨A, n, c, rfl, hln, hnc, hA, hr⟩ := hv
  have hmm := @run_makeMap Try.prog
  have Hr := Lib.hid hr
  have Hln := Lib.hid hln
  have Hon := Lib.hid hon
  have Hnd := Lib.hid hnd
  rw [hln] at hl
  have HR0 := Lib.hid (show SetL (w.alloc (.map #[] 0)) w.heap.size (l.take 0) ∧ Below w.heap.size w (w.alloc (.map #[] 0)) from ⟨SetL.made w, (Below.refl _ _).alloc (Nat.le_refl _) _⟩)
  clear hr hln hon hnd
  go_enter Try.func62, Try.ntmps62
  go_wp2_with fail
  go_loopw [9] (fun i wr => ∃ k : Nat, k ≤ n ∧ i = .int .i64 (k : Int) ∧ SetL wr w.heap.size (l.take k) ∧ Below w.heap.size w wr) (fun i _ => n - (intOf i).toNat)
  case atStart => exact ⟨0, Nat.zero_le _, rfl, HR0.out⟩
  case round =>
    obtain ⟨k, hk, rfl, hs, hb⟩ := hrel
    by_cases hkn : k < n
    · obtain ⟨b, o, x, rfl, hbB, hxx, hcs⟩ := (Hr.out.below hb).elem encC_len Hln.out hkn
      obtain ⟨x, y⟩ := x
      have e0 : wr.cell? ⟨b, o + k * 2, none⟩ = some (.int .i64 x) := hcs 0 _ rfl
      have e1 : wr.cell? ⟨b, o + k * 2 + 1, none⟩ = some (.int .i64 y) := hcs 1 _ rfl
      have Hw := Lib.hid (Hon.out (x, y) (List.mem_of_getElem? hxx))
      have hnew : addC (l.take k) (x, y) = l.take (k + 1) := by
        unfold addC
        rw [if_neg (fun hm => by
          obtain ⟨j, hj, he⟩ := List.getElem_of_mem hm
          rw [List.getElem_take] at he
          have hj' : j < k := by simp at hj; omega
          obtain ⟨hkl, hke⟩ := List.getElem?_eq_some_iff.1 hxx
          exact List.pairwise_iff_getElem.1 Hnd.out j k (by omega) hkl hj' (he.trans hke.symm)), List.take_add_one, hxx]
        rfl
      have Hnew := Lib.hid hnew
      have HsA := Lib.hid (fun X => hs.below ((Below.refl wr.heap.size wr).alloc (Nat.le_refl _) X) hs.lt)
      have HbA := Lib.hid (fun X => hb.alloc hb.size X)
      have HN := Lib.hid (show (l.take k).length < maxLen by rw [List.length_take]; unfold maxLen; omega)
      clear hs hb hcs hxx hbB hnew
      go_wp2_with (at_mapUpdate; refine wpList_put_l rfl _ _ _ _ rfl Try.underlying105 w.heap.size (l.take k) HN.out (x, y) Hw.out rfl rfl rfl (HsA.out _) ?_; intro w6 hs6 hg6; have HR6 := Lib.hid (show SetL w6 w.heap.size (l.take (k + 1)) ∧ Below w.heap.size w w6 from ⟨Hnew.out ▸ hs6, (HbA.out _).grown hg6 (HbA.out _).size (fun g hg => by injection hg with hg; omega)⟩); clear hs6 hg6)
      go_roundw
      case rel => exact ⟨k + 1, by omega, by go_num, HR6.out⟩
      case measure => simp [intOf]; omega
    · obtain rfl : k = n := by omega
      have HP := Lib.hid (show SetLPost w l (.returned (.map (some w.heap.size))) wr from ⟨_, rfl, Nat.le_refl _, by
        rw [List.take_of_length_le (by rw [Hln.out]; exact Nat.le_refl _)] at hs
        exact hs, hb⟩)
      clear hs hb
      go_wp2_with fail
      go_ret
      exact HP.out
end Go.Proofs.Ytaahpjjffggaiaa
namespace Go.Proofs.Ytaahpjjffggaiaa
open Go.RowKit Go.Gy Go.Maps Go.WideMaps
set_option linter.unusedVariables false
def cellAt (k : Nat) : Cell := (((k % 128 : Nat) : Int) - 64, ((k / 128 : Nat) : Int) - 64)
def listF (L : List Cell) (k : Nat) : List Cell := ((List.range k).map cellAt).filter fun c => decide (c ∈ L)
theorem listF_succ (L : List Cell) (k : Nat) : listF L (k + 1) = if cellAt k ∈ L then listF L k ++ [cellAt k] else listF L k := by
  unfold listF
  rw [List.range_succ, List.map_append, List.filter_append]
  by_cases h : cellAt k ∈ L
  · simp [h]
  · simp [h]
theorem listF_len (L : List Cell) (k : Nat) : (listF L k).length ≤ k := by
  unfold listF
  refine Nat.le_trans (List.length_filter_le _ _) ?_
  simp
theorem listF_sorted (L : List Cell) (k : Nat) : SortC (listF L k) := by
  unfold listF
  refine List.Pairwise.filter _ ?_
  rw [List.pairwise_map]
  refine List.Pairwise.imp ?_ List.pairwise_lt_range
  intro i j h
  unfold ltC cellAt
  simp only
  omega
theorem mem_listF {L : List Cell} {x : Cell} : x ∈ listF L 16384 ↔ x ∈ L ∧ onC x := by
  unfold listF
  rw [List.mem_filter, decide_eq_true_eq, List.mem_map]
  constructor
  · rintro ⟨⟨k, hk, rfl⟩, h⟩
    refine ⟨h, ?_⟩
    rw [List.mem_range] at hk
    unfold onC cellAt
    simp only
    omega
  · rintro ⟨h, hx⟩
    refine ⟨⟨(x.1 + 64).toNat + 128 * (x.2 + 64).toNat, ?_, ?_⟩, h⟩
    · rw [List.mem_range]
      unfold onC at hx
      omega
    · unfold onC at hx
      unfold cellAt
      have h1 : (((x.1 + 64).toNat + 128 * (x.2 + 64).toNat) % 128 : Nat) = (x.1 + 64).toNat := by omega
      have h2 : (((x.1 + 64).toNat + 128 * (x.2 + 64).toNat) / 128 : Nat) = (x.2 + 64).toNat := by omega
      rw [h1, h2]
      exact Prod.ext (by simp only; omega) (by simp only; omega)
theorem listF_sort {L : List Cell} (h : ∀ c ∈ L, onC c) : listF L 16384 = sortC L :=
  sort_unique _ _ (listF_sorted _ _) (sorted_sortC _) fun x => by rw [mem_listF, mem_sortC]; exact ⟨fun h => h.1, fun h1 => ⟨h1, h x h1⟩⟩
def ListPost (w : World) (l : List Cell) (e : Ending) (w' : World) : Prop := ∃ v', e = .returned v' ∧ w'.ownsRow w.heap.size 24 2 v' l.length (l.flatMap encC) ∧ Below w.heap.size w w'
set_option maxRecDepth 100000 in
set_option maxHeartbeats 4000000 in
theorem list_any (w : World) (b : Nat) (L : List Cell) (hs : SetL w b L) :
    Calls Try.prog 63 #[.map (some b)] w (ListPost w (listF L 16384)) := by
  obtain ⟨j0, hji, hy0, hy1, hy2⟩ := info_parts info_cells
  have Hs := Lib.hid hs
  have hlt := hs.lt
  clear hs
  go_enter Try.func63, Try.ntmps63
  go_wp2_with fail
  go_loopw [3, 4] (fun o y wr => ∃ k : Nat, k ≤ 128 ∧ y = .int .i64 ((k : Int) - 64) ∧ wr.ownsRow w.heap.size 24 2 o (listF L (128 * k)).length ((listF L (128 * k)).flatMap encC) ∧ Below w.heap.size w wr) (fun _ y _ => 64 - intOf y |>.toNat)
  case atStart => exact ⟨0, by omega, rfl, World.ownsRow_nil _ _ _ _, Below.refl _ _⟩
  case round =>
    obtain ⟨w1, rfl⟩ : ∃ w1, w1 = wr := ⟨_, rfl⟩
    obtain ⟨k, hk, rfl, hown, hb⟩ := hrel
    have Hown := Lib.hid hown
    have Hb := Lib.hid hb
    obtain ⟨A0, c0, rfl, _⟩ := own_rd hown
    clear hown hb
    by_cases hkn : k < 128
    · have hk64 : (k : Int) - 64 < 64 := by omega
      go_wp2_with fail
      go_loopw [3, 5] (fun o x wr => ∃ j : Nat, j ≤ 128 ∧ x = .int .i64 ((j : Int) - 64) ∧ wr.ownsRow w.heap.size 24 2 o (listF L (128 * k + j)).length ((listF L (128 * k + j)).flatMap encC) ∧ Below w.heap.size w wr) (fun _ x _ => 64 - intOf x |>.toNat)
      case atStart => exact ⟨0, by omega, rfl, Hown.out, Hb.out⟩
      case round =>
        obtain ⟨j, hj, rfl, hown, hb⟩ := hrel
        have Hown := Lib.hid hown
        have Hb := Lib.hid hb
        obtain ⟨A1, c1, rfl, _⟩ := own_rd hown
        clear hown hb
        by_cases hjn : j < 128
        · have hat : cellAt (128 * k + j) = ((j : Int) - 64, (k : Int) - 64) := by
            unfold cellAt
            have h1 : (128 * k + j) % 128 = j := by omega
            have h2 : (128 * k + j) / 128 = k := by omega
            rw [h1, h2]
          have hsu := listF_succ L (128 * k + j)
          rw [hat] at hsu
          have Hsu := Lib.hid hsu
          have Hw := Lib.hid (show WfC ((j : Int) - 64, (k : Int) - 64) from onC_wf (by simp only; omega))
          have HsW := Lib.hid (Hs.out.below Hb.out hlt)
          have hln := listF_len L (128 * k + j)
          clear hat hsu
          by_cases hin : ((j : Int) - 64, (k : Int) - 64) ∈ L
          · have HR := Lib.hid (show listF L (128 * k + (j + 1)) = listF L (128 * k + j) ++ [((j : Int) - 64, (k : Int) - 64)] from by rw [← Nat.add_assoc, Hsu.out, if_pos hin])
            have Hin := Lib.hid hin
            obtain ⟨m, hm⟩ : ∃ m, m = (listF L (128 * k + j)).length := ⟨_, rfl⟩
            rw [← hm] at Hown hln ⊢
            have Hm := Lib.hid hm
            have hlm : m + 1 ≤ maxLen := by unfold maxLen; omega
            have hz4 := Hb.out.size
            clear hin hm
            go_wp2_with (first
              | (at_lookup; refine wpList_look_l rfl _ _ _ rfl Try.underlying105 b L ((j : Int) - 64, (k : Int) - 64) Hw.out rfl rfl HsW.out ?_; rw [decide_eq_true Hin.out])
              | (at_builtin; refine wpList_push rfl (.tmp 19) (.tmp 23) 25 rfl w.heap.size 24 j0 (.agg #[.int .i64 0, .int .i64 0]) 2 16 Try.underlying25 hji hy0 hy1 hy2 rfl (by omega) _ m _ rfl Hown.out [.int .i64 ((j : Int) - 64), .int .i64 ((k : Int) - 64)] rfl rfl (by simp [Value.oneCell']) hlm (by omega) hz4 ?_; intro v6 w6 hn6 hb6 _; have Hn6 := Lib.hid hn6; have Hb6 := Lib.hid (Hb.out.trans hb6); clear hn6 hb6))
            go_roundw
            case rel =>
              refine ⟨j + 1, by omega, by first | go_num | (congr 1; omega), ?_, Hb6.out⟩
              rw [HR.out, List.length_append, ← Hm.out, List.flatMap_append]
              exact Hn6.out
            case measure => simp [intOf]; omega
          · have HR := Lib.hid (show listF L (128 * k + (j + 1)) = listF L (128 * k + j) from by rw [← Nat.add_assoc, Hsu.out, if_neg hin])
            have Hin := Lib.hid hin
            clear hin
            go_wp2_with (at_lookup; refine wpList_look_l rfl _ _ _ rfl Try.underlying105 b L ((j : Int) - 64, (k : Int) - 64) Hw.out rfl rfl HsW.out ?_; rw [decide_eq_false Hin.out]; go_frame)
            go_roundw
            case rel =>
              refine ⟨j + 1, by omega, by first | go_num | (congr 1; omega), ?_, Hb.out⟩
              rw [HR.out]
              exact Hown.out
            case measure => simp [intOf]; omega
        · obtain rfl : j = 128 := by omega
          go_wp2_with fail
          go_roundw
          case rel =>
            refine ⟨k + 1, by omega, by first | go_num | (congr 1; omega), ?_, Hb.out⟩
            exact Hown.out
          case measure => simp [intOf]; omega
    · obtain rfl : k = 128 := by omega
      have HP := Lib.hid (show ListPost w (listF L 16384) (.returned (.slice A0 (listF L 16384).length c0)) w1 from ⟨_, rfl, Hown.out, Hb.out⟩)
      go_wp2_with fail
      go_ret
      exact HP.out
end Go.Proofs.Ytaahpjjffggaiaa
