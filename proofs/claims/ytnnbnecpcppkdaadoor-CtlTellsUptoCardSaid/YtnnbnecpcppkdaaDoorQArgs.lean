/- Numbers, rules and rows of numbers as arguments. Conditions: those typed. -/
import Derived.Test.YtnnbnecpcppkdaaDoorOpen
import Derived.Test.YtnnbnecpcppkdaaDoorMakeQ
namespace Go.Proofs.YtnnbnecpcppkdaaDoor
open Go.RowKit Go.Gy Go.WideShapes
set_option linter.unusedVariables false
set_option maxRecDepth 100000 in
theorem opens_quot (W : World) : Opens Tryd.prog W 25 fun cs b => ∃ x : Q3, cs = encQ x ∧ x.le b := by
  refine (opens_struct3 Tryd.underlying25 (by kernel_rfl) ⟨rfl, by kernel_rfl⟩ ⟨rfl, by kernel_rfl⟩ ⟨rfl, by kernel_rfl⟩ (V0 := fun v _ => ∃ b : Bool, v = .bool b) (V1 := fun v b => ∃ s : ByteArray, v = .string s ∧ s.size < b) (V2 := fun v b => ∃ s : ByteArray, v = .string s ∧ s.size < b) ?_ ?_ ?_).mono ?_
  · intro H enc fuel cs x hx _
    obtain ⟨b, h1, _⟩ := DataW.trod_bool Tryd.underlying4 hx
    exact ⟨_, h1, b, rfl⟩
  · exact (opens_string Tryd.underlying9).mono fun _ _ ⟨s, h1, _, _, h2⟩ => ⟨_, h1, s, rfl, h2⟩
  · exact (opens_string Tryd.underlying9).mono fun _ _ ⟨s, h1, _, _, h2⟩ => ⟨_, h1, s, rfl, h2⟩
  · rintro cs b ⟨_, _, _, b0, b1, b2, rfl, ⟨x, rfl⟩, ⟨s, rfl, h1⟩, ⟨t, rfl, h2⟩, _, l1, l2⟩
    exact ⟨⟨x, s, t⟩, rfl, by simp only; omega, by simp only; omega⟩
set_option maxRecDepth 100000 in
theorem opens_rule (W : World) : Opens Tryd.prog W 108 fun cs b => ∃ x y : Q3, cs = encQ x ++ encQ y ∧ x.le b ∧ y.le b := by
  refine (opens_struct Tryd.underlying108 (fun _ cs b => ∃ x : Q3, cs = encQ x ∧ x.le b) ?_).mono ?_
  · intro i f hi
    match i, hi with
    | 0, hi => simp at hi; subst hi; exact opens_quot W
    | 1, hi => simp at hi; subst hi; exact opens_quot W
    | i + 2, hi => simp at hi
  · rintro cs b ⟨hl, h⟩
    obtain ⟨b0, ⟨x, e0, h0⟩, l0⟩ := h 0 _ rfl
    obtain ⟨b1, ⟨y, e1, h1⟩, l1⟩ := h 1 _ rfl
    have hc : Tryd.prog.cellsOf 25 = 3 := by kernel_rfl
    have hc2 : Tryd.prog.cellsOf 108 = 6 := by kernel_rfl
    have e0 : (cs.drop 0).take (Tryd.prog.cellsOf 25) = encQ x := e0
    have e1 : (cs.drop 3).take (Tryd.prog.cellsOf 25) = encQ y := e1
    rw [hc] at e0 e1
    rw [hc2] at hl
    refine ⟨x, y, ?_, h0.more (by omega), h1.more (by omega)⟩
    rw [← e0, ← e1]
    match cs, hl with
    | [_, _, _, _, _, _], _ => rfl
def QuotArg (W : World) (v : Value) (b : Nat) : Prop := ∃ x : Q3, v = .agg #[.bool x.neg, .string x.num, .string x.den] ∧ x.le b
def RuleArg (W : World) (v : Value) (b : Nat) : Prop := ∃ x y : Q3, v = .agg #[.bool x.neg, .string x.num, .string x.den, .bool y.neg, .string y.num, .string y.den] ∧ x.le b ∧ y.le b
def QuotsArg (W : World) (v : Value) (b : Nat) : Prop := ∃ l : List Q3, SlQ W W.heap.size v l ∧ (∀ x ∈ l, x.le b) ∧ l.length < b
set_option maxRecDepth 100000 in
theorem arg_quot {H : Type} {enc : TypeId × Value → H} {W : World} {v : Value} {d : DataW H} {p : List MemPlace} {r : Reach} {b0 : Nat} (hv : Value.okWide Tryd.prog W r b0 25 v) (h : DataW.Trod enc Tryd.prog W 0 (fun _ => true) true 25 v d p)
    (hw : ∀ m ∈ d.weights Tryd.prog 25, m ≤ reachBytes) : QuotArg W v (bulk d) := by
  obtain ⟨cs, rfl, _⟩ := okWide_struct Tryd.underlying25 hv
  obtain ⟨x, he, hx⟩ := view (opens_quot W) h hw
  have he : cs.toList = encQ x := he
  refine ⟨x, ?_, hx⟩
  have : cs = (encQ x).toArray := by rw [← he]
  rw [this]; rfl
set_option maxRecDepth 100000 in
theorem arg_rule {H : Type} {enc : TypeId × Value → H} {W : World} {v : Value} {d : DataW H} {p : List MemPlace} {r : Reach} {b0 : Nat} (hv : Value.okWide Tryd.prog W r b0 108 v) (h : DataW.Trod enc Tryd.prog W 0 (fun _ => true) true 108 v d p)
    (hw : ∀ m ∈ d.weights Tryd.prog 108, m ≤ reachBytes) : RuleArg W v (bulk d) := by
  obtain ⟨cs, rfl, _⟩ := okWide_struct Tryd.underlying108 hv
  obtain ⟨x, y, he, hx, hy⟩ := view (opens_rule W) h hw
  have he : cs.toList = encQ x ++ encQ y := he
  refine ⟨x, y, ?_, hx, hy⟩
  have : cs = (encQ x ++ encQ y).toArray := by rw [← he]
  rw [this]; rfl
set_option maxRecDepth 100000 in
theorem arg_quots {H : Type} {enc : TypeId × Value → H} {W : World} {v : Value} {d : DataW H} {p : List MemPlace} {r : Reach} {b0 : Nat} (hv : Value.okWide Tryd.prog W r b0 48 v) (h : DataW.Trod enc Tryd.prog W 0 (fun _ => true) true 48 v d p)
    (hw : ∀ m ∈ d.weights Tryd.prog 48, m ≤ reachBytes) : QuotsArg W v (bulk d) := by
  obtain ⟨a, n, c, rfl⟩ := okWide_slice Tryd.underlying48 hv
  have hs := view (opens_slice Tryd.underlying48 (show Tryd.prog.cellsOf 25 = 3 by kernel_rfl) (by omega) (show Tryd.prog.bytesOf 25 = 40 by kernel_rfl) (opens_quot W)) h hw
  have hle : ∀ x m, (∃ q : Q3, x = encQ q ∧ q.le m) → m < bulk d → ∃ q : Q3, x = encQ q ∧ q.le (bulk d) := fun x m ⟨q, h1, h2⟩ hm => ⟨q, h1, h2.more (by omega)⟩
  obtain ⟨A, n', c', xs, hcs, h1, h2, h3, h4, h5, h6, h7, h8⟩ := hs
  have hs2 : SliceOf W 3 40 (fun cs _ => ∃ x : Q3, cs = encQ x ∧ x.le (bulk d)) (Value.slice a n c).cells.toList (bulk d) := ⟨A, n', c', xs, hcs, h1, h2, h3, h4, h5, h6, fun x hx => by
    obtain ⟨hl, m, hm, hm2⟩ := h7 x hx
    exact ⟨hl, m, hle x m hm hm2, hm2⟩, h8⟩
  obtain ⟨A, n, c, l, he, hl, hnc, _, _, hcb, hA, hrd, hq⟩ := hs2.arg (enc := encQ) (Q := fun x : Q3 => x.le (bulk d)) rfl (by omega) (fun x m hx => hx)
  exact ⟨l, ⟨A, n, c, he, hl, hnc, hA, hrd⟩, hq, by omega⟩
set_option maxRecDepth 100000 in
theorem opens_vec (W : World) : Opens Tryd.prog W 30 fun cs b => ∃ x y : Q3, cs = encQ x ++ encQ y ∧ x.le b ∧ y.le b := by
  refine (opens_struct Tryd.underlying30 (fun _ cs b => ∃ x : Q3, cs = encQ x ∧ x.le b) ?_).mono ?_
  · intro i f hi
    match i, hi with
    | 0, hi => simp at hi; subst hi; exact opens_quot W
    | 1, hi => simp at hi; subst hi; exact opens_quot W
    | i + 2, hi => simp at hi
  · rintro cs b ⟨hl, h⟩
    obtain ⟨b0, ⟨x, e0, h0⟩, l0⟩ := h 0 _ rfl
    obtain ⟨b1, ⟨y, e1, h1⟩, l1⟩ := h 1 _ rfl
    have hc : Tryd.prog.cellsOf 25 = 3 := by kernel_rfl
    have hc2 : Tryd.prog.cellsOf 30 = 6 := by kernel_rfl
    have e0 : (cs.drop 0).take (Tryd.prog.cellsOf 25) = encQ x := e0
    have e1 : (cs.drop 3).take (Tryd.prog.cellsOf 25) = encQ y := e1
    rw [hc] at e0 e1
    rw [hc2] at hl
    refine ⟨x, y, ?_, h0.more (by omega), h1.more (by omega)⟩
    rw [← e0, ← e1]
    match cs, hl with
    | [_, _, _, _, _, _], _ => rfl
def VecArg (W : World) (v : Value) (b : Nat) : Prop := ∃ x y : Q3, v = .agg #[.bool x.neg, .string x.num, .string x.den, .bool y.neg, .string y.num, .string y.den] ∧ x.le b ∧ y.le b
set_option maxRecDepth 100000 in
theorem arg_vec {H : Type} {enc : TypeId × Value → H} {W : World} {v : Value} {d : DataW H} {p : List MemPlace} {r : Reach} {b0 : Nat} (hv : Value.okWide Tryd.prog W r b0 30 v) (h : DataW.Trod enc Tryd.prog W 0 (fun _ => true) true 30 v d p)
    (hw : ∀ m ∈ d.weights Tryd.prog 30, m ≤ reachBytes) : VecArg W v (bulk d) := by
  obtain ⟨cs, rfl, _⟩ := okWide_struct Tryd.underlying30 hv
  obtain ⟨x, y, he, hx, hy⟩ := view (opens_vec W) h hw
  have he : cs.toList = encQ x ++ encQ y := he
  refine ⟨x, y, ?_, hx, hy⟩
  have : cs = (encQ x ++ encQ y).toArray := by rw [← he]
  rw [this]; rfl
end Go.Proofs.YtnnbnecpcppkdaaDoor
