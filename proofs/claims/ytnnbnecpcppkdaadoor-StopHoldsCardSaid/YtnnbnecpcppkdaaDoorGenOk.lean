/- What gantmake.Arm makes is taken by arm.Check. Conditions: those typed. -/
import Derived.Test.YtnnbnecpcppkdaaDoorArmM
import Derived.Test.YtnnbnecpcppkdaaDoorArmD
import Derived.Test.YtnnbnecpcppkdaaDoorBrakes
namespace Go.Proofs.YtnnbnecpcppkdaaDoor
open Go.RowKit Go.Gy
set_option linter.unusedVariables false
theorem Q3.can.good2 {x : Q3} (h : x.can) : GoodR x.neg x.num x.den := by
  rw [h]
  exact parts_good _
theorem small1 {x : Q3} (h : x.can) (l : x.le 1) : SmallP x := by
  have h1 : x.num.size ≤ 1 := l.1
  have h2 : x.den.size ≤ 1 := l.2
  have b1 : sval x.num < 256 := by
    have := bval_lt x.num.data.toList
    exact Nat.lt_of_lt_of_le this (Nat.le_trans (Nat.pow_le_pow_right (by omega) (show x.num.data.toList.length ≤ 1 by simpa using h1)) (by decide))
  have b2 : sval x.den < 256 := by
    have := bval_lt x.den.data.toList
    exact Nat.lt_of_lt_of_le this (Nat.le_trans (Nat.pow_le_pow_right (by omega) (show x.den.data.toList.length ≤ 1 by simpa using h2)) (by decide))
  exact ⟨by omega, by omega, h.good2, by omega, by omega⟩
def areaZ (a b c : Int × Int) : Int := (b.1 - a.1) * (c.2 - a.2) - (b.2 - a.2) * (c.1 - a.1)
def convB (zs : List (Int × Int)) : Bool := (List.range zs.length).all fun i => (List.range zs.length).all fun k => decide (k < 2) ||
  (match zs[i]?, zs[(i + 1) % zs.length]?, zs[(i + k) % zs.length]? with
   | some a, some b, some c => decide (0 < areaZ a b c)
   | _, _, _ => false)
theorem mk4 (x : Int) : mkRat x 4 = (x : Rat) * (1 / 4) := by
  rw [Rat.mkRat_eq_div, Rat.div_def, show (((4 : Nat) : Rat))⁻¹ = 1 / 4 from by decide +kernel]
theorem area_pt {p q r : P2} {a b c : Int × Int} (hp : PtIs p a.1 a.2) (hq : PtIs q b.1 b.2) (hr : PtIs r c.1 c.2) : areaQ p q r = (areaZ a b c : Rat) * (1 / 16) := by
  unfold areaQ areaZ
  rw [hp.1, hp.2.1, hq.1, hq.2.1, hr.1, hr.2.1, mk4, mk4, mk4, mk4, mk4, mk4, Rat.intCast_sub, Rat.intCast_mul, Rat.intCast_mul, Rat.intCast_sub, Rat.intCast_sub, Rat.intCast_sub, Rat.intCast_sub]
  grind
theorem area_pos {p q r : P2} {a b c : Int × Int} (hp : PtIs p a.1 a.2) (hq : PtIs q b.1 b.2) (hr : PtIs r c.1 c.2) (h : 0 < areaZ a b c) : 0 < areaQ p q r := by
  rw [area_pt hp hq hr]
  have h1 : ((0 : Int) : Rat) < (areaZ a b c : Rat) := Rat.intCast_lt_intCast.mpr h
  have h0 : ((0 : Int) : Rat) = 0 := rfl
  rw [h0] at h1
  grind
theorem PtsOf.get : ∀ {l : List P2} {zs : List (Int × Int)}, PtsOf l zs → ∀ {i : Nat} {p : P2}, l[i]? = some p → ∃ z, zs[i]? = some z ∧ PtIs p z.1 z.2
  | [], _, _, _, _, hi => by simp at hi
  | p :: l, z :: zs, h, 0, q, hi => by
    simp only [List.getElem?_cons_zero, Option.some.injEq] at hi
    subst hi
    exact ⟨z, rfl, h.1⟩
  | p :: l, z :: zs, h, i + 1, q, hi => PtsOf.get h.2 (i := i) (by simpa using hi)
  | _ :: _, [], h, _, _, _ => False.elim h
theorem conv_shape {c : Int} (hc : 0 ≤ c ∧ c ≤ 3) {zs : List (Int × Int)} (h : zs = [(-1, -1), (4 + 2 * c + 1, -1), (4 + 2 * c + 1, 1), (-1, 1)] ∨ zs = [(-1, -1), (4 + 2 * c + 1, 0), (-1, 1)]) : convB zs = true := by
  have h4 : c = 0 ∨ c = 1 ∨ c = 2 ∨ c = 3 := by omega
  rcases h4 with rfl | rfl | rfl | rfl <;> rcases h with rfl | rfl <;> decide +kernel
theorem conv_of {l : List P2} {zs : List (Int × Int)} (hl : PtsOf l zs) (hc : convB zs = true) : Conv l := by
  have hlen := hl.len2
  unfold convB at hc
  rw [List.all_eq_true] at hc
  intro i k hi hk2 hk a b c ha hb hcc
  have h1 := hc i (List.mem_range.2 (by omega))
  rw [List.all_eq_true] at h1
  have h2 := h1 k (List.mem_range.2 (by omega))
  rw [decide_eq_false (by omega : ¬ k < 2), Bool.false_or] at h2
  rw [hlen] at hb hcc
  obtain ⟨za, ea, pa⟩ := hl.get ha
  obtain ⟨zb, eb, pb⟩ := hl.get hb
  obtain ⟨zc, ec, pc⟩ := hl.get hcc
  rw [ea, eb, ec] at h2
  exact area_pos pa pb pc (of_decide_eq_true h2)
theorem len_pos (c : Int) (hc : 0 ≤ c ∧ c ≤ 3) : 0 < mkRat (4 + 2 * c) 4 := by
  have h4 : c = 0 ∨ c = 1 ∨ c = 2 ∨ c = 3 := by omega
  rcases h4 with rfl | rfl | rfl | rfl <;> decide +kernel
theorem sp_pos (d : Int) (hd : 0 ≤ d ∧ d ≤ 7) : 0 < mkRat 1 (4 + d).toNat := by
  have h8 : d = 0 ∨ d = 1 ∨ d = 2 ∨ d = 3 ∨ d = 4 ∨ d = 5 ∨ d = 6 ∨ d = 7 := by omega
  rcases h8 with rfl | rfl | rfl | rfl | rfl | rfl | rfl | rfl <;> decide +kernel
theorem low_neg (a : Int) (h : 0 ≤ a ∧ a ≤ 5) : mkRat (-1 - a) 3 < 0 := by
  have h6 : a = 0 ∨ a = 1 ∨ a = 2 ∨ a = 3 ∨ a = 4 ∨ a = 5 := by omega
  rcases h6 with rfl | rfl | rfl | rfl | rfl | rfl <;> decide +kernel
theorem high_pos (a : Int) (h : 0 ≤ a ∧ a ≤ 5) : 0 < mkRat (1 + a) 3 := by
  have h6 : a = 0 ∨ a = 1 ∨ a = 2 ∨ a = 3 ∨ a = 4 ∨ a = 5 := by omega
  rcases h6 with rfl | rfl | rfl | rfl | rfl | rfl <;> decide +kernel
theorem PtsOf.all {l : List P2} {zs : List (Int × Int)} (h : PtsOf l zs) : ∀ p ∈ l, p.can ∧ p.le 1 := by
  intro p hp
  obtain ⟨i, hi, rfl⟩ := List.getElem_of_mem hp
  obtain ⟨z, _, hpt⟩ := h.get (List.getElem?_eq_getElem hi)
  exact ⟨hpt.2.2.1, hpt.2.2.2⟩
theorem GenLk.ok {k : Lk} {l : List P2} (h : GenLk k l) : LinkE k l 0 := by
  have hbr := h.brake.1
  obtain ⟨c, a, e, d, f, zs, hc, ha, he, hd, hf, ⟨q1, q2, q3, q4, q5⟩, ⟨c1, c2, c3, c4, c5⟩, ⟨l1, l2, l3, l4, l5⟩, hp, hz⟩ := h
  refine .inr ⟨⟨?_, ?_, ?_, ?_, hbr⟩, 0, ?_, .inr (.inr ⟨rfl, ?_, rfl⟩)⟩
  · intro x hx
    simp only [List.mem_cons, List.not_mem_nil, or_false] at hx
    rcases hx with rfl | rfl | rfl | rfl | rfl
    · exact small1 c1 l1
    · exact small1 c2 l2
    · exact small1 c3 l3
    · exact small1 c4 l4
    · exact small1 c5 l5
  · rw [q1]; exact len_pos c hc
  · rw [q2, q3]
    have h1 := low_neg a ha
    have h2 := high_pos e he
    grind
  · rw [q4]; exact sp_pos d hd
  · have hl : l.length = 3 ∨ l.length = 4 := by
      have := hp.len2
      rcases hz with rfl | rfl
      · exact .inr this
      · exact .inl this
    exact .inr (.inr (.inr ⟨by omega, by omega, conv_of hp (conv_shape hc hz), rfl⟩))
  · intro p hpm x hx
    obtain ⟨h1, h2⟩ := hp.all p hpm
    simp only [List.mem_cons, List.not_mem_nil, or_false] at hx
    rcases hx with rfl | rfl
    · exact small1 h1.1 h2.1
    · exact small1 h1.2 h2.2
theorem GenAr.ok {a : Ar} (h : GenAr a) : ArmE a 0 := by
  have hl := h.len
  refine .inr (.inr (.inr ⟨?_, hl.2, by omega, ⟨?_, ?_⟩, LinksE.ok fun x hx => (h.lk x hx).ok⟩))
  · rw [h.nm]
    refine ⟨fun i hi => ?_, by decide, by decide⟩
    have h3 : i = 0 ∨ i = 1 ∨ i = 2 := by
      have : i < 3 := hi
      omega
    rcases h3 with rfl | rfl | rfl
    · exact (by decide : 97 ≤ (111 : Nat) ∧ (111 : Nat) ≤ 122)
    · exact (by decide : 97 ≤ (110 : Nat) ∧ (110 : Nat) ≤ 122)
    · exact (by decide : 97 ≤ (101 : Nat) ∧ (101 : Nat) ≤ 122)
  · intro x hx
    simp only [List.mem_cons, List.not_mem_nil, or_false] at hx
    rcases hx with rfl | rfl | rfl
    · exact small1 h.p.2.2.1.1 h.p.2.2.2.1
    · exact small1 h.p.2.2.1.2 h.p.2.2.2.2
    · exact small1 h.t.1 h.t.2
  · rw [h.half]
    intro hh
    cases hh.1
theorem GenLk.le {k : Lk} {l : List P2} (h : GenLk k l) : k.le 1 ∧ (∀ y ∈ l, y.le 1) ∧ l.length ≤ 4 := by
  obtain ⟨c, a, e, d, f, zs, _, _, _, _, _, _, _, hl, hp, hz⟩ := h
  refine ⟨hl, fun y hy => (hp.all y hy).2, ?_⟩
  have := hp.len2
  rcases hz with rfl | rfl
  · exact Nat.le_of_eq this
  · rw [this]; simp
theorem GenAr.le {a : Ar} (h : GenAr a) : a.le 4 := by
  refine ⟨⟨h.p.2.2.2.1.more (by decide), h.p.2.2.2.2.more (by decide)⟩, h.t.2.more (by decide), by rw [h.nm]; decide, fun x hx => ?_⟩
  obtain ⟨h1, h2, h3⟩ := (h.lk x hx).le
  exact ⟨h1.more (by decide), fun y hy => ⟨(h2 y hy).1.more (by decide), (h2 y hy).2.more (by decide)⟩, h3⟩
end Go.Proofs.YtnnbnecpcppkdaaDoor
