/- Rows of sent messages. Conditions: those typed. -/
import Derived.Test.YtpnefacignalpaaMsg
import Derived.Test.YtpnefacignalpaaKeep
import Derived.Test.YtpnefacignalpaaStablePlain
import Derived.Test.YtpnefacignalpaaSwap
import Derived.Deep.DeepCutAuto
import Derived.Deep.MidRow
namespace Go.Proofs.Ytpnefacignalpaa
open Go.RowKit Go.Gy
set_option linter.unusedVariables false
/-- a message, and where its cells lie -/
structure SM where
  m : GMsg
  A : Option Addr
  n : Nat
  c : Nat
def encM (s : SM) : List Value := [.int .i64 s.m.kind, .int .i64 s.m.src, .int .i64 s.m.dst, .int .i64 s.m.seq, .int .u32 s.m.clock, .slice s.A s.n s.c]
abbrev SE := Int × SM
def encS (x : SE) : List Value := .int .i64 x.1 :: encM x.2
theorem encS_len (x : SE) : (encS x).length = 7 := rfl
def set7 (W : World) (g o : Nat) (x : SE) : World :=
  ((((((W.setCell ⟨g, o, none⟩ (.int .i64 x.1)).setCell ⟨g, o + 1, none⟩ (.int .i64 x.2.m.kind)).setCell ⟨g, o + 2, none⟩ (.int .i64 x.2.m.src)).setCell ⟨g, o + 3, none⟩ (.int .i64 x.2.m.dst)).setCell ⟨g, o + 4, none⟩ (.int .i64 x.2.m.seq)).setCell ⟨g, o + 5, none⟩ (.int .u32 x.2.m.clock)).setCell ⟨g, o + 6, none⟩ (.slice x.2.A x.2.n x.2.c)
theorem setFlat (x : SE) : ∀ (l : List SE) (i : Nat), i < l.length → ((((((((l.flatMap encS).set (i * 7) (.int .i64 x.1)).set (i * 7 + 1) (.int .i64 x.2.m.kind)).set (i * 7 + 2) (.int .i64 x.2.m.src)).set (i * 7 + 3) (.int .i64 x.2.m.dst)).set (i * 7 + 4) (.int .i64 x.2.m.seq)).set (i * 7 + 5) (.int .u32 x.2.m.clock)).set (i * 7 + 6) (.slice x.2.A x.2.n x.2.c)) = (l.set i x).flatMap encS
  | [], i, h => by simp at h
  | y :: l, 0, h => by simp [encS, encM]
  | y :: l, i + 1, h => by
    have ih := setFlat x l i (by simpa using h)
    rw [List.flatMap_cons, List.set_cons_succ, List.flatMap_cons, ← ih]
    simp only [encS, encM, List.cons_append, List.nil_append]
    rw [show (i + 1) * 7 = i * 7 + 1 + 1 + 1 + 1 + 1 + 1 + 1 by omega]
    simp only [show ∀ k : Nat, i * 7 + 1 + 1 + 1 + 1 + 1 + 1 + 1 + k = i * 7 + k + 1 + 1 + 1 + 1 + 1 + 1 + 1 from fun k => by omega, List.set_cons_succ]
theorem grown_set (W : World) (g i : Nat) (u : Value) : W.grownBy (W.setCell ⟨g, i, none⟩ u) (some g) :=
  ⟨rfl, rfl, rfl, (by rw [World.size_setCell]; exact Nat.le_refl _), fun k _ hk => Below.heap_setCell _ _ _ k (fun e => hk (by rw [e]))⟩
/-- worlds alike but for block g and what is new -/
def GroW (g : Nat) (w w' : World) : Prop := w.grownBy w' (some g)
theorem GroW.refl (g : Nat) (w : World) : GroW g w w := ⟨rfl, rfl, rfl, Nat.le_refl _, fun _ _ _ => rfl⟩
theorem GroW.trans {g : Nat} {a b c : World} (h : GroW g a b) (k : GroW g b c) : GroW g a c :=
  ⟨k.os.trans h.os, k.tape.trans h.tape, k.output.trans h.output, Nat.le_trans h.size k.size, fun i hi hne => (k.block i (Nat.lt_of_lt_of_le hi h.size) hne).trans (h.block i hi hne)⟩
theorem GroW.of_below {g : Nat} {a b : World} (h : Below a.heap.size a b) : GroW g a b := ⟨h.os, h.tape, h.output, h.size, fun k hk _ => h.block k hk⟩
theorem GroW.drew {g : Nat} {a b : World} (h : GroW g a b) : GroW g a b.drew := h.trans (GroW.of_below (Below.refl _ _).drew)
theorem GroW.set (W : World) (g i : Nat) (u : Value) : GroW g W (W.setCell ⟨g, i, none⟩ u) := grown_set W g i u
theorem GroW.below {g B : Nat} {a b : World} (h : GroW g a b) (hg : B ≤ g) (hB : B ≤ a.heap.size) : Below B a b := (Below.refl B a).grown h hB (fun k hk => by injection hk with hk; omega)
/-- a row of sent messages -/
def SRow (base g n cap : Nat) (xs : List SE) (W : World) : Prop := W.ownsRow base 82 7 (.slice (some ⟨g, 0, none⟩) n cap) n (xs.flatMap encS) ∧ xs.length = n
theorem SRow.set {base g n cap : Nat} {xs : List SE} {W : World} (h : SRow base g n cap xs W) {i : Nat} (hi : i < xs.length) (x : SE) : SRow base g n cap (xs.set i x) (set7 W g (i * 7) x) := by
  refine ⟨?_, by rw [List.length_set]; exact h.2⟩
  rw [← setFlat x xs i hi]
  exact ((((((((h.1.stored (i * 7) _).1.stored (i * 7 + 1) _).1.stored (i * 7 + 2) _).1.stored (i * 7 + 3) _).1.stored (i * 7 + 4) _).1.stored (i * 7 + 5) _).1.stored (i * 7 + 6) _).1)
theorem SRow.below {base g n cap : Nat} {xs : List SE} {W W' : World} (h : SRow base g n cap xs W) (hb : Below W.heap.size W W') : SRow base g n cap xs W' := ⟨own_below h.1 hb (Nat.le_refl _), h.2⟩
theorem SRow.free {base g n cap : Nat} {xs : List SE} {W : World} (h : SRow base g n cap xs W) (j : Nat) : W.frozen? ⟨g, j, none⟩ = false := h.1.frozenAt j
theorem SRow.lt {base g n cap : Nat} {xs : List SE} {W : World} (h : SRow base g n cap xs W) : base ≤ g ∧ g < W.heap.size := h.1.lt g rfl
theorem flatS_get : ∀ (l : List SE) (i : Nat) (x : SE), l[i]? = some x → ∀ j u, (encS x)[j]? = some u → (l.flatMap encS)[i * 7 + j]? = some u
  | [], i, x, h, _, _, _ => by simp at h
  | y :: l, 0, x, h, j, u, hj => by
    have e : y = x := by simpa using h
    subst e
    have hl : j < 7 := by have := (List.getElem?_eq_some_iff.1 hj).1; rw [encS_len] at this; exact this
    rw [List.flatMap_cons, List.getElem?_append_left (by rw [encS_len]; omega), show 0 * 7 + j = j by omega]
    exact hj
  | y :: l, i + 1, x, h, j, u, hj => by
    have ih := flatS_get l i x (by simpa using h) j u hj
    rw [List.flatMap_cons, List.getElem?_append_right (by rw [encS_len]; omega), encS_len, show (i + 1) * 7 + j - 7 = i * 7 + j by omega]
    exact ih
theorem SRow.cells {base g n cap : Nat} {xs : List SE} {W : World} (h : SRow base g n cap xs W) {i : Nat} {d k s t q c : Int} {cs : List Cell} {A : Option Addr} {m p : Nat} (hx : xs[i]? = some (d, ⟨⟨k, s, t, q, c, cs⟩, A, m, p⟩)) :
    W.cell? ⟨g, i * 7, none⟩ = some (.int .i64 d) ∧ W.cell? ⟨g, i * 7 + 1, none⟩ = some (.int .i64 k) ∧ W.cell? ⟨g, i * 7 + 2, none⟩ = some (.int .i64 s) ∧ W.cell? ⟨g, i * 7 + 3, none⟩ = some (.int .i64 t) ∧ W.cell? ⟨g, i * 7 + 4, none⟩ = some (.int .i64 q) ∧ W.cell? ⟨g, i * 7 + 5, none⟩ = some (.int .u32 c) ∧ W.cell? ⟨g, i * 7 + 6, none⟩ = some (.slice A m p) := by
  have key : ∀ j u, (encS (d, ⟨⟨k, s, t, q, c, cs⟩, A, m, p⟩))[j]? = some u → W.cell? ⟨g, i * 7 + j, none⟩ = some u := fun j u hj => by
    have h1 := h.1.cells rfl _ u (flatS_get xs i _ hx j u hj)
    rw [add_none, Nat.zero_add] at h1
    exact h1
  exact ⟨key 0 _ rfl, key 1 _ rfl, key 2 _ rfl, key 3 _ rfl, key 4 _ rfl, key 5 _ rfl, key 6 _ rfl⟩
theorem SRow.belowSet {base g n cap : Nat} {xs : List SE} {W : World} (h : SRow base g n cap xs W) (o : Nat) (x : SE) : GroW g W (set7 W g o x) :=
  ((((((GroW.set W g _ _).trans (GroW.set _ g _ _)).trans (GroW.set _ g _ _)).trans (GroW.set _ g _ _)).trans (GroW.set _ g _ _)).trans (GroW.set _ g _ _)).trans (GroW.set _ g _ _)
theorem SRow.there {base g n cap : Nat} {xs : List SE} {W : World} (h : SRow base g n cap xs W) {i : Nat} (hi : i < n) : W.there g (i * 7) 7 := fun j hj => by
  obtain ⟨x, hx⟩ : ∃ x, xs[i]? = some x := ⟨_, List.getElem?_eq_getElem (by rw [h.2]; exact hi)⟩
  obtain ⟨u, hu⟩ : ∃ u, (encS x)[j]? = some u := ⟨_, List.getElem?_eq_getElem (by rw [encS_len]; exact hj)⟩
  have h1 := h.1.cells rfl _ u (flatS_get xs i x hx j u hu)
  rw [add_none, Nat.zero_add] at h1
  exact ⟨by rw [h1]; rfl, h.free _⟩
theorem info_sent : (Try.prog.info? 82).map (·.size) = some 7 := by kernel_rfl
theorem exec_store7 {op : Oper} {ev : Operand → Value} {W : World} {x y : Operand} {g o : Nat} {e : SE} (ho : op.op = .store 82 x y) (hx : ev x = .pointer (some ⟨g, o, none⟩)) (hy : ev y = .agg (encS e).toArray) (ht : W.there g o 7) : (execOp ev op).run Try.prog W = .ok .skip (set7 W g o e) := by
  unfold execOp
  simp only [ho, hx, hy, Instr.storeAt, Instr.sureAddr, Sem.run_bind, Sem.run_pure, Result.andThen_ok, run_storeVar_mid W g o 82 (encS e).toArray ht info_sent (by simp [encS, encM, Value.oneCell'])]
  rfl
end Go.Proofs.Ytpnefacignalpaa
