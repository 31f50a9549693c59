/- Rows of rational numbers. Conditions: those typed. -/
import Derived.Test.YthmgcbpmfipfiaaDoorFeelA
namespace Go.Proofs.YthmgcbpmfipfiaaDoor
open Go.RowKit Go.Gy
set_option linter.unusedVariables false
/-- the three parts of an api.Rat -/
structure Q3 where
  neg : Bool
  num : ByteArray
  den : ByteArray
def Q3.q (x : Q3) : Rat := fitQ x.neg x.num x.den
def Q3.ok (x : Q3) : Prop := x.num.size ≤ 274877906944 ∧ x.den.size ≤ 274877906944
def encQ (x : Q3) : List Value := [.bool x.neg, .string x.num, .string x.den]
theorem encQ_len (x : Q3) : (encQ x).length = 3 := rfl
def toQ3 (q : Rat) : Q3 := ⟨qn q, qs q, qt q⟩
theorem toQ3_q (q : Rat) : (toQ3 q).q = q := fit_parts q
theorem toQ3_ok {q : Rat} (h : qz q ≤ 274877906944) : (toQ3 q).ok := ⟨Nat.le_trans (qs_size q) h, Nat.le_trans (qt_size q) h⟩
theorem flatQ_length (l : List Q3) : (l.flatMap encQ).length = l.length * 3 := by
  induction l with
  | nil => rfl
  | cons x l ih => rw [List.flatMap_cons, List.length_append, ih, encQ_len, List.length_cons]; omega
/-- a slice of rational numbers, read below block B -/
def SlQ (w : World) (B : Nat) (v : Value) (r : List Q3) : Prop := ∃ A n c, v = .slice A n c ∧ r.length = n ∧ n ≤ c ∧ (A = none → c = 0) ∧ Rd w B 3 A n (r.flatMap encQ)
theorem SlQ.below {w w' : World} {B : Nat} {v : Value} {r : List Q3} (h : SlQ w B v r) (hb : Below B w w') : SlQ w' B v r := by
  obtain ⟨A, n, c, h1, h2, h3, h4, h5⟩ := h
  exact ⟨A, n, c, h1, h2, h3, h4, h5.below hb⟩
theorem SlQ.more {w : World} {B B' : Nat} {v : Value} {r : List Q3} (h : SlQ w B v r) (hB : B ≤ B') : SlQ w B' v r := by
  obtain ⟨A, n, c, h1, h2, h3, h4, h5⟩ := h
  exact ⟨A, n, c, h1, h2, h3, h4, h5.more hB⟩
theorem SlQ.own {w : World} {base n : Nat} {v : Value} {r : List Q3} (h : w.ownsRow base 27 3 v n (r.flatMap encQ)) : SlQ w w.heap.size v r := by
  have hl : r.length = n := by
    have := h.1
    rw [flatQ_length] at this
    omega
  obtain ⟨A, c, rfl, h1, _, h2⟩ := own_rd h
  exact ⟨A, n, c, rfl, hl, h1, fun hA => (own_none h hA).2, h2⟩
/-- element k: its three cells -/
theorem Rd.quot {w : World} {B n k : Nat} {A : Option Addr} {r : List Q3} (h : Rd w B 3 A n (r.flatMap encQ)) {x : Q3} (hx : r[k]? = some x) : ∃ b o, A = some ⟨b, o, none⟩ ∧ b < B ∧ w.cell? ⟨b, o + k * 3, none⟩ = some (.bool x.neg) ∧ w.cell? ⟨b, o + k * 3 + 1, none⟩ = some (.string x.num) ∧ w.cell? ⟨b, o + k * 3 + 2, none⟩ = some (.string x.den) := by
  have hk : k < r.length := (List.getElem?_eq_some_iff.1 hx).1
  have hn : 0 < n := by have := h.1; rw [flatQ_length] at this; omega
  obtain ⟨b, o, hA, hb, hc⟩ := h.2 hn
  have key : ∀ (r : List Q3) (k : Nat) (x : Q3), r[k]? = some x → ∀ j : Nat, j < 3 → (r.flatMap encQ)[k * 3 + j]? = (encQ x)[j]? := by
    intro r
    induction r with
    | nil => intro k x h; simp at h
    | cons y r ih =>
      intro k x h j hj
      rw [List.flatMap_cons]
      cases k with
      | zero =>
        simp only [List.getElem?_cons_zero, Option.some.injEq] at h
        subst h
        rw [Nat.zero_mul, Nat.zero_add, List.getElem?_append_left (by rw [encQ_len]; exact hj)]
      | succ k =>
        rw [List.getElem?_cons_succ] at h
        rw [List.getElem?_append_right (by rw [encQ_len]; omega), encQ_len, show (k + 1) * 3 + j - 3 = k * 3 + j by omega]
        exact ih k x h j hj
  exact ⟨b, o, hA, hb, hc _ _ (key r k x hx 0 (by decide)), by rw [Nat.add_assoc]; exact hc _ _ (key r k x hx 1 (by decide)), by rw [Nat.add_assoc]; exact hc _ _ (key r k x hx 2 (by decide))⟩
end Go.Proofs.YthmgcbpmfipfiaaDoor
