/- Words for reading messages: parts of slices of bytes, the cells of a message. Conditions: those typed. -/
import Derived.Test.YtaahpjjffggaiaaWrite
import Derived.Deep.DeepCutAuto
namespace Go.Proofs.Ytaahpjjffggaiaa
open Go.RowKit Go.Gy
set_option linter.unusedVariables false

theorem results_cell_two {P : Program} {fn : Func} {p q : Tmp} {ty : TypeId} (h : fn.results = #[.cell p ty, .tmp q]) (tmps : Array Value) (w : World) (g : Nat) (t : TypeId) (cs : Array Value) (fr : Nat × Nat) (d : TypeDesc) (u : Value)
    (hp : tmps.getD p undef = .pointer (some ⟨g, 0, none⟩)) (hq : tmps.getD q undef = u) (hg : w.heap[g]? = some (.cells cs t fr))
    (hu : P.underlying ty = some d) (hd : (match d with | .struct _ | .array _ _ => true | _ => false) = true) (hi : (P.info? ty).map (·.size) = some cs.size) :
    (results fn tmps).run P w = .ok (.tuple #[.agg cs, u]) w := by
  have hp' : tmps[p]?.getD undef = .pointer (some ⟨g, 0, none⟩) := by simpa using hp
  have hq' : tmps[q]?.getD undef = u := by simpa using hq
  simp [results, h, hp', hq', asAddr, run_loadVar_row w g t ty cs fr d hg hu hd hi]
/-- a part of a slice of bytes -/
theorem SlB.mid {w : World} {B g o n c i m : Nat} {b : List Nat} (h : SlB w B (.slice (some ⟨g, o, none⟩) n c) b) (hi : i + m ≤ n) (hc : ¬ c = i) : SlB w B (.slice (some ⟨g, o + i, none⟩) m (c - i)) ((b.drop i).take m) := by
  obtain ⟨_, _, _, he, hl, hnc, hA, hr⟩ := h
  injection he with e1 e2 e3
  subst e1 e2 e3
  have h1 := (hr.cut (k := i) (cap := c) (by omega) hnc).take (k := m) (by omega)
  simp only [hc, if_false, Option.map_some, add_none, Nat.mul_one, ← List.map_drop, ← List.map_take] at h1
  exact ⟨_, m, c - i, rfl, by rw [List.length_take, List.length_drop]; omega, by omega, (fun h => by cases h), h1⟩
theorem SlB.head {w : World} {B g o n c m : Nat} {b : List Nat} (h : SlB w B (.slice (some ⟨g, o, none⟩) n c) b) (hi : m ≤ n) : SlB w B (.slice (some ⟨g, o, none⟩) m c) (b.take m) := by
  obtain ⟨_, _, _, he, hl, hnc, hA, hr⟩ := h
  injection he with e1 e2 e3
  subst e1 e2 e3
  have h1 := hr.take (k := m) hi
  simp only [Nat.mul_one, ← List.map_take] at h1
  exact ⟨_, m, c, rfl, by rw [List.length_take]; omega, by omega, (fun h => by cases h), h1⟩
theorem SlB.byte {w : World} {B g o n c k : Nat} {b : List Nat} (h : SlB w B (.slice (some ⟨g, o, none⟩) n c) b) (hk : k < n) : ∃ z, b[k]? = some z ∧ g < B ∧ w.cell? ⟨g, o + k, none⟩ = some (.int .u8 (z : Int)) := by
  obtain ⟨_, _, _, he, hl, hnc, hA, hr⟩ := h
  injection he with e1 e2 e3
  subst e1 e2 e3
  obtain ⟨g', o', z, hA', hg, hz, hc⟩ := bv_at hr hk
  injection hA' with hA'
  injection hA' with h1 h2
  subst h1 h2
  exact ⟨z, hz, hg, hc⟩
theorem SlB.drewN {w : World} {B : Nat} {v : Value} {b : List Nat} (h : SlB w B v b) (k : Nat) : SlB (w.drewN k) B v b := h
def numAt (b : List Nat) (i : Nat) : Nat := valN ((b.drop i).take 4)
theorem numAt_lt {b : List Nat} (h8 : ∀ x ∈ b, x < 256) (i : Nat) : numAt b i < 4294967296 := valN_lt 4 _ (by rw [List.length_take]; omega) fun x hx => h8 x (List.mem_of_mem_drop (List.mem_of_mem_take hx))
/-- what Read leaves -/
def ReadMPost (w : World) (b : List Nat) (e : Ending) (w' : World) : Prop := ∃ A n c, e = .returned (.tuple #[msgV (readM b) A n c, .int .i64 ((readE b : Nat) : Int)]) ∧ MsgAt w' w'.heap.size (readM b) A n c ∧ Below w.heap.size w w'
theorem ReadMPost.bad {w w' : World} {b : List Nat} {x : Nat} (h : readE b = x) (hx : x ≠ 0) (hb : Below w.heap.size w w') : ReadMPost w b (.returned (.tuple #[.agg #[.int .i64 0, .int .i64 0, .int .i64 0, .int .i64 0, .int .u32 0, .slice none 0 0], .int .i64 (x : Int)])) w' := by
  have hm : readM b = zeroM := by unfold readM; rw [if_neg (by omega)]
  refine ⟨none, 0, 0, ?_, ?_, hb⟩
  · rw [hm, h]; rfl
  · rw [hm]; exact ⟨rfl, Nat.le_refl _, fun _ => ⟨rfl, rfl⟩, by omega, ⟨rfl, fun h => by omega⟩⟩
theorem readE_of {b : List Nat} {x : Nat} (h : readE0 b = x) (hx : x ≠ 0) : readE b = x := by unfold readE; rw [if_neg (by omega), h]
abbrev zeroV : Array Value := #[.int .i64 0, .int .i64 0, .int .i64 0, .int .i64 0, .int .u32 0, .slice none 0 0]
theorem blk_zero {w : World} {g : Nat} (h : Blk w g 28 zeroV) : Blk ((((((w.setCell ⟨g, 0, none⟩ (.int .i64 0)).setCell ⟨g, 1, none⟩ (.int .i64 0)).setCell ⟨g, 2, none⟩ (.int .i64 0)).setCell ⟨g, 3, none⟩ (.int .i64 0)).setCell ⟨g, 4, none⟩ (.int .u32 0)).setCell ⟨g, 5, none⟩ (.slice none 0 0)) g 28 zeroV :=
  (((((h.set 0 _).set 1 _).set 2 _).set 3 _).set 4 _).set 5 _
theorem cellsOf_snoc : ∀ (k : Nat) (l : List Nat) (x y : Nat), l[2 * k]? = some x → l[2 * k + 1]? = some y → cellsOf (l.take (2 * (k + 1))) = cellsOf (l.take (2 * k)) ++ [((x : Int) - 64, (y : Int) - 64)]
  | 0, [], x, y, h, _ => by simp at h
  | 0, [a], x, y, _, h => by simp at h
  | 0, a :: b :: l, x, y, h, h' => by
    simp at h h'
    subst h h'
    rfl
  | k + 1, [], x, y, h, _ => by simp at h
  | k + 1, [a], x, y, h, _ => by simp at h
  | k + 1, a :: b :: l, x, y, h, h' => by
    have e1 : 2 * (k + 1) = 2 * k + 1 + 1 := by omega
    have e2 : 2 * (k + 1 + 1) = 2 * (k + 1) + 1 + 1 := by omega
    rw [e1] at h h'
    simp only [List.getElem?_cons_succ] at h
    rw [show 2 * k + 1 + 1 + 1 = (2 * k + 1) + 1 + 1 by omega] at h'
    simp only [List.getElem?_cons_succ] at h'
    rw [e2, e1, List.take_succ_cons, List.take_succ_cons, List.take_succ_cons, List.take_succ_cons]
    show _ :: cellsOf (l.take (2 * (k + 1))) = _ :: (cellsOf (l.take (2 * k)) ++ _)
    rw [cellsOf_snoc k l x y h h']
theorem cellsOf_len : ∀ (k : Nat) (l : List Nat), 2 * k ≤ l.length → (cellsOf (l.take (2 * k))).length = k
  | 0, l, _ => by simp [cellsOf]
  | k + 1, [], h => by simp at h
  | k + 1, [a], h => by simp at h; omega
  | k + 1, a :: b :: l, h => by
    rw [show 2 * (k + 1) = 2 * k + 1 + 1 by omega, List.take_succ_cons, List.take_succ_cons]
    show (cellsOf (l.take (2 * k))).length + 1 = k + 1
    rw [cellsOf_len k l (by simp at h; omega)]
abbrev msgRow (b : List Nat) (x0 x1 x2 : Nat) (v : Value) : Array Value := #[.int .i64 (x0 : Int), .int .i64 (x1 : Int), .int .i64 (x2 : Int), .int .i64 (numAt b 3 : Int), .int .u32 (numAt b 7 : Int), v]
def RdRel (w1 : World) (Bx : Nat) (b : List Nat) (x0 x1 x2 G N : Nat) (i : Value) (wr : World) : Prop := ∃ k A2 c2, k ≤ N ∧ i = .int .i64 (k : Nat) ∧ Blk wr G 28 (msgRow b x0 x1 x2 (.slice A2 k c2)) ∧ wr.ownsRow Bx 24 2 (.slice A2 k c2) k ((cellsOf ((b.drop 13).take (2 * k))).flatMap encC) ∧ Below w1.heap.size w1 wr ∧ Bx ≤ wr.heap.size
def ReadCut (w1 : World) (b : List Nat) (x0 x1 x2 : Nat) (s : Value) (wx : World) : Prop := ∃ G, s = .pointer (some ⟨G, 0, none⟩) ∧ w1.heap.size ≤ G ∧ Blk wx G 28 #[.int .i64 (x0 : Int), .int .i64 (x1 : Int), .int .i64 (x2 : Int), .int .i64 (numAt b 3 : Int), .int .u32 (numAt b 7 : Int), .slice none 0 0] ∧ Below w1.heap.size w1 wx
end Go.Proofs.Ytaahpjjffggaiaa
