/- Points, rows of points; a link as an argument. Conditions: those typed. -/
import Derived.Test.YtnnbnecpcppkdaaDoorQArgs
import Derived.Test.YtnnbnecpcppkdaaDoorStopA
namespace Go.Proofs.YtnnbnecpcppkdaaDoor
open Go.RowKit Go.Gy Go.WideShapes
set_option linter.unusedVariables false
/-- a point -/
structure P2 where
  x : Q3
  y : Q3
def encP (p : P2) : List Value := encQ p.x ++ encQ p.y
def P2.le (p : P2) (N : Nat) : Prop := p.x.le N ∧ p.y.le N
theorem P2.le.more {p : P2} {N M : Nat} (h : p.le N) (hM : N ≤ M) : p.le M := ⟨h.1.more hM, h.2.more hM⟩
theorem encP_length (p : P2) : (encP p).length = 6 := rfl
/-- a slice of points -/
def SlP (w : World) (B : Nat) (v : Value) (r : List P2) : Prop := ∃ A n c, v = .slice A n c ∧ r.length = n ∧ n ≤ c ∧ (A = none → c = 0) ∧ Rd w B 6 A n (r.flatMap encP)
theorem SlP.below {w w' : World} {B : Nat} {v : Value} {r : List P2} (h : SlP w B v r) (hb : Below B w w') : SlP w' B v r := by
  obtain ⟨A, n, c, h1, h2, h3, h4, h5⟩ := h
  exact ⟨A, n, c, h1, h2, h3, h4, h5.below hb⟩
theorem SlP.more {w : World} {B B' : Nat} {v : Value} {r : List P2} (h : SlP w B v r) (hB : B ≤ B') : SlP w B' v r := by
  obtain ⟨A, n, c, h1, h2, h3, h4, h5⟩ := h
  exact ⟨A, n, c, h1, h2, h3, h4, h5.more hB⟩
theorem Rd.pt {w : World} {B n k : Nat} {A : Option Addr} {r : List P2} (h : Rd w B 6 A n (r.flatMap encP)) {p : P2} (hx : r[k]? = some p) : ∃ b o, A = some ⟨b, o, none⟩ ∧ b < B ∧
    w.cell? ⟨b, o + k * 6, none⟩ = some (.bool p.x.neg) ∧ w.cell? ⟨b, o + k * 6 + 1, none⟩ = some (.string p.x.num) ∧ w.cell? ⟨b, o + k * 6 + 2, none⟩ = some (.string p.x.den) ∧
    w.cell? ⟨b, o + k * 6 + 3, none⟩ = some (.bool p.y.neg) ∧ w.cell? ⟨b, o + k * 6 + 4, none⟩ = some (.string p.y.num) ∧ w.cell? ⟨b, o + k * 6 + 5, none⟩ = some (.string p.y.den) := by
  have hk : k < r.length := (List.getElem?_eq_some_iff.1 hx).1
  have hn : 0 < n := by have := h.1; rw [flat_length encP_length] at this; omega
  obtain ⟨b, o, hA, hb, hc⟩ := h.2 hn
  have key := fun j u (hu : (encP p)[j]? = some u) => hc _ u (flat_get r encP_length k p hx j u hu)
  refine ⟨b, o, hA, hb, ?_, ?_, ?_, ?_, ?_, ?_⟩
  · have := key 0 _ rfl; rwa [Nat.add_zero] at this
  · have := key 1 _ rfl; rwa [← Nat.add_assoc] at this
  · have := key 2 _ rfl; rwa [← Nat.add_assoc] at this
  · have := key 3 _ rfl; rwa [← Nat.add_assoc] at this
  · have := key 4 _ rfl; rwa [← Nat.add_assoc] at this
  · have := key 5 _ rfl; rwa [← Nat.add_assoc] at this
def PtsArg (W : World) (v : Value) (b : Nat) : Prop := ∃ l : List P2, SlP W W.heap.size v l ∧ (∀ x ∈ l, x.le b) ∧ l.length < b
set_option maxRecDepth 100000 in
theorem opens_pt (W : World) : Opens Tryd.prog W 30 fun cs b => ∃ p : P2, cs = encP p ∧ p.le b :=
  (opens_vec W).mono fun cs b ⟨x, y, h1, h2, h3⟩ => ⟨⟨x, y⟩, h1, h2, h3⟩
set_option maxRecDepth 100000 in
theorem opens_pts (W : World) : Opens Tryd.prog W 26 fun cs b => ∃ v, cs = [v] ∧ PtsArg W v b := by
  refine (opens_slice Tryd.underlying26 (show Tryd.prog.cellsOf 30 = 6 by kernel_rfl) (by omega) (show Tryd.prog.bytesOf 30 = 80 by kernel_rfl) (opens_pt W)).mono ?_
  rintro cs b ⟨A, n', c', xs, rfl, h1, h2, h3, h4, h5, h6, h7, h8⟩
  have hs2 : SliceOf W 6 80 (fun cs _ => ∃ x : P2, cs = encP x ∧ x.le b) (Value.slice A n' c').cells.toList b := ⟨A, n', c', xs, rfl, h1, h2, h3, h4, h5, h6, fun x hx => by
    obtain ⟨hl, m, ⟨q, e, hq⟩, hm2⟩ := h7 x hx
    exact ⟨hl, m, ⟨q, e, hq.more (by omega)⟩, hm2⟩, h8⟩
  obtain ⟨A, n, c, l, he, hl, hnc, _, _, hcb, hA, hrd, hq⟩ := hs2.arg (enc := encP) (Q := fun x : P2 => x.le b) rfl (by omega) (fun x m hx => hx)
  exact ⟨_, rfl, l, ⟨A, n, c, he, hl, hnc, hA, hrd⟩, hq, by omega⟩
/-- the numbers of a link are small -/
def Lk.le (k : Lk) (N : Nat) : Prop := k.len.le N ∧ k.low.le N ∧ k.high.le N ∧ k.speed.le N ∧ k.brake.le N
theorem Lk.le.more {k : Lk} {N M : Nat} (h : k.le N) (hM : N ≤ M) : k.le M := ⟨h.1.more hM, h.2.1.more hM, h.2.2.1.more hM, h.2.2.2.1.more hM, h.2.2.2.2.more hM⟩
def encK (k : Lk) : List Value := [.bool k.len.neg, .string k.len.num, .string k.len.den, .bool k.low.neg, .string k.low.num, .string k.low.den, .bool k.high.neg, .string k.high.num, .string k.high.den, .bool k.speed.neg, .string k.speed.num, .string k.speed.den, .bool k.brake.neg, .string k.brake.num, .string k.brake.den, k.shape]
set_option maxRecDepth 100000 in
theorem opens_link (W : World) : Opens Tryd.prog W 28 fun cs b => ∃ k : Lk, cs = encK k ∧ k.le b ∧ PtsArg W k.shape b := by
  refine (opens_struct Tryd.underlying28 (fun i cs b => match i with | 5 => ∃ v, cs = [v] ∧ PtsArg W v b | _ => ∃ x : Q3, cs = encQ x ∧ x.le b) ?_).mono ?_
  · intro i f hi
    match i, hi with
    | 0, hi => simp at hi; subst hi; exact opens_quot W
    | 1, hi => simp at hi; subst hi; exact opens_quot W
    | 2, hi => simp at hi; subst hi; exact opens_quot W
    | 3, hi => simp at hi; subst hi; exact opens_quot W
    | 4, hi => simp at hi; subst hi; exact opens_quot W
    | 5, hi => simp at hi; subst hi; exact opens_pts W
    | i + 6, hi => simp at hi
  · rintro cs b ⟨hl, h⟩
    obtain ⟨b0, ⟨x0, e0, h0⟩, l0⟩ := h 0 _ rfl
    obtain ⟨b1, ⟨x1, e1, h1⟩, l1⟩ := h 1 _ rfl
    obtain ⟨b2, ⟨x2, e2, h2⟩, l2⟩ := h 2 _ rfl
    obtain ⟨b3, ⟨x3, e3, h3⟩, l3⟩ := h 3 _ rfl
    obtain ⟨b4, ⟨x4, e4, h4⟩, l4⟩ := h 4 _ rfl
    obtain ⟨b5, ⟨v, e5, l, h5, h6, h7⟩, l5⟩ := h 5 _ rfl
    have hc : Tryd.prog.cellsOf 25 = 3 := by kernel_rfl
    have hc1 : Tryd.prog.cellsOf 26 = 1 := by kernel_rfl
    have hc2 : Tryd.prog.cellsOf 28 = 16 := by kernel_rfl
    have e0 : (cs.drop 0).take (Tryd.prog.cellsOf 25) = encQ x0 := e0
    have e1 : (cs.drop 3).take (Tryd.prog.cellsOf 25) = encQ x1 := e1
    have e2 : (cs.drop 6).take (Tryd.prog.cellsOf 25) = encQ x2 := e2
    have e3 : (cs.drop 9).take (Tryd.prog.cellsOf 25) = encQ x3 := e3
    have e4 : (cs.drop 12).take (Tryd.prog.cellsOf 25) = encQ x4 := e4
    have e5 : (cs.drop 15).take (Tryd.prog.cellsOf 26) = [v] := e5
    rw [hc] at e0 e1 e2 e3 e4
    rw [hc1] at e5
    rw [hc2] at hl
    refine ⟨⟨x0, x1, x2, x3, x4, v⟩, ?_, ⟨h0.more (by omega), h1.more (by omega), h2.more (by omega), h3.more (by omega), h4.more (by omega)⟩, l, h5, fun x hx => (h6 x hx).more (by omega), by omega⟩
    show cs = encQ x0 ++ encQ x1 ++ encQ x2 ++ encQ x3 ++ encQ x4 ++ [v]
    rw [← e0, ← e1, ← e2, ← e3, ← e4, ← e5]
    match cs, hl with
    | [_, _, _, _, _, _, _, _, _, _, _, _, _, _, _, _], _ => rfl
def LinkArg (W : World) (v : Value) (b : Nat) : Prop := ∃ k : Lk, v = .agg #[.bool k.len.neg, .string k.len.num, .string k.len.den, .bool k.low.neg, .string k.low.num, .string k.low.den, .bool k.high.neg, .string k.high.num, .string k.high.den, .bool k.speed.neg, .string k.speed.num, .string k.speed.den, .bool k.brake.neg, .string k.brake.num, .string k.brake.den, k.shape] ∧ k.le b ∧ PtsArg W k.shape b
set_option maxRecDepth 100000 in
theorem arg_link {H : Type} {enc : TypeId × Value → H} {W : World} {v : Value} {d : DataW H} {p : List MemPlace} {r : Reach} {b0 : Nat} (hv : Value.okWide Tryd.prog W r b0 28 v) (h : DataW.Trod enc Tryd.prog W 0 (fun _ => true) true 28 v d p)
    (hw : ∀ m ∈ d.weights Tryd.prog 28, m ≤ reachBytes) : LinkArg W v (bulk d) := by
  obtain ⟨cs, rfl, _⟩ := okWide_struct Tryd.underlying28 hv
  obtain ⟨k, he, hk, hs⟩ := view (opens_link W) h hw
  have he : cs.toList = encK k := he
  refine ⟨k, ?_, hk, hs⟩
  have : cs = (encK k).toArray := by rw [← he]
  rw [this]; rfl
end Go.Proofs.YtnnbnecpcppkdaaDoor
