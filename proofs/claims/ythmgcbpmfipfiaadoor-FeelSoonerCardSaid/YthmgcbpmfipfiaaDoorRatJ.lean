/- rat.whole, rat.Floor. Conditions: those typed. -/
import Derived.Test.YthmgcbpmfipfiaaDoorRatI
namespace Go.Proofs.YthmgcbpmfipfiaaDoor
open Go.RowKit Go.Gy
set_option linter.unusedVariables false
theorem floor_pos {q : Rat} (h : qn q = false) : q.floor = ((q.num.natAbs / q.den : Nat) : Int) := by
  rw [Rat.floor_def]
  have h1 := qn_sgn q
  rw [h, sgn_false] at h1
  rw [← h1, Int.natAbs_natCast, Int.natCast_ediv]
theorem floor_neg {q : Rat} (h : qn q = true) : q.floor = -(((if q.num.natAbs % q.den = 0 then q.num.natAbs / q.den else q.num.natAbs / q.den + 1) : Nat) : Int) := by
  rw [Rat.floor_def]
  have h1 := qn_sgn q
  rw [h, sgn_true] at h1
  rw [← h1, Int.natAbs_neg, Int.natAbs_natCast]
  generalize q.num.natAbs = x
  have hd := q.den_pos
  generalize q.den = d at hd
  have e := Nat.div_add_mod x d
  have hl := Nat.mod_lt x hd
  generalize x / d = a at e ⊢
  generalize x % d = r at e hl ⊢
  split
  · rename_i hr
    subst hr
    rw [Nat.add_zero] at e
    rw [← e, Int.natCast_mul, ← Int.mul_neg, Int.mul_ediv_cancel_left _ (by omega)]
  · have : (-(x : Int)) = (d : Int) * -((a + 1 : Nat) : Int) + ((d - r : Nat) : Int) := by
      rw [← e, Int.natCast_sub (by omega)]
      simp only [Int.natCast_add, Int.natCast_mul, Int.natCast_one]
      grind
    rw [this, Int.add_comm, Int.add_mul_ediv_left _ _ (by omega), Int.ediv_eq_zero_of_lt (by omega) (by omega), Int.zero_add]
/-- what whole reckons: the absolute value of the floor -/
theorem floor_abs (q : Rat) : q.floor.natAbs = if qn q = true ∧ q.num.natAbs % q.den ≠ 0 then q.num.natAbs / q.den + 1 else q.num.natAbs / q.den := by
  cases h : qn q
  · rw [floor_pos h, Int.natAbs_natCast, if_neg (by simp)]
  · rw [floor_neg h, Int.natAbs_neg, Int.natAbs_natCast]
    by_cases h2 : q.num.natAbs % q.den = 0
    · rw [if_pos h2, if_neg (by simp [h2])]
    · rw [if_neg h2, if_pos ⟨rfl, h2⟩]
theorem floor_sgn (q : Rat) : mkRat (sgn (qn q) q.floor.natAbs) 1 = (q.floor : Rat) := by
  rw [Rat.mkRat_one]
  congr 1
  cases h : qn q
  · rw [floor_pos h, sgn_false, Int.natAbs_natCast]
  · rw [floor_neg h, sgn_true, Int.natAbs_neg, Int.natAbs_natCast]
theorem floor_len (q : Rat) : (natL q.floor.natAbs).length ≤ qz q + 1 := by
  rw [floor_abs]
  have h1 : q.num.natAbs / q.den ≤ q.num.natAbs := Nat.div_le_self _ _
  have h2 := natL_len_mono h1
  have h3 := natL_len_add (q.num.natAbs / q.den) 1
  rw [natL_len_one] at h3
  have h4 := qz_pos q
  unfold qz at *
  split <;> omega
set_option maxRecDepth 100000 in
set_option maxHeartbeats 4000000 in
theorem whole_any (w : World) (q : Rat) (hz : qz q ≤ 2199023255552) (hT : TabW w) :
    Calls Tryd.prog 88 #[.agg #[.bool (qn q), .string (qs q), .string (qt q)]] w fun e w' => e = .returned (QV (q.floor : Rat)) ∧ Below w.heap.size w w' := by
  have HTW := Lib.hid (fun W hW => TabW.below (w' := W) hT hW)
  have y1 := qs_size q
  have y2 := qt_size q
  have D := Lib.hid (show ∀ W, Calls Tryd.prog 94 #[.string (qs q), .string (qt q)] W fun e w' => e = .returned (.tuple #[.string (natS (q.num.natAbs / q.den)), .string (natS (q.num.natAbs % q.den)), .int .i64 0]) ∧ Below W.heap.size W w' from fun W => by
    have h := div_any W (qs q) (qt q) (by omega) (by omega)
    unfold qs qt at h
    rw [sval_natS, sval_natS] at h
    refine h.mono fun e w' h => ?_
    obtain ⟨h1, h2⟩ := h
    unfold divF at h1
    rw [if_neg q.den_nz] at h1
    exact ⟨h1, h2⟩)
  have A1 := Lib.hid (fun W => add_any W (natS (q.num.natAbs / q.den)) (natS 1) (by have := natS_mono (Nat.div_le_self q.num.natAbs q.den); unfold qs at y1; omega) (by rw [natS_size, natL_len_one]; decide))
  rw [sval_natS, sval_natS, natS_one] at A1
  have MD := Lib.hid (fun W hW => made_any W (qn q) q.floor.natAbs 1 (by decide) (by rw [natS_size]; have := floor_len q; omega) (by rw [natS_size, natL_len_one]; decide) (HTW.out W hW))
  rw [floor_sgn, natS_one] at MD
  unfold QV at MD
  have hfa := floor_abs q
  have HV := Lib.hid (show Value.agg #[.bool (qn q.floor), .string (qs q.floor), .string (qt q.floor)] = QV (q.floor : Rat) from rfl)
  have he := natS_empty (q.num.natAbs % q.den)
  obtain ⟨k0, k1, hB, hz⟩ := R3.two w (qn q) (qs q) (qt q) false { data := #[] } { data := #[] }
  obtain ⟨nQ, hnQ⟩ : ∃ x, x = qn q.floor := ⟨_, rfl⟩
  obtain ⟨sQ, hsQ⟩ : ∃ x, x = qs q.floor := ⟨_, rfl⟩
  obtain ⟨tQ, htQ⟩ : ∃ x, x = qt q.floor := ⟨_, rfl⟩
  rw [← hnQ, ← hsQ, ← htQ] at MD HV
  clear hnQ hsQ htQ y1 y2 hT
  cases hq : qn q
  · rw [hq, if_neg (by simp)] at hfa
    rw [hq] at k0 k1 hB MD
    rw [hfa] at MD
    clear hfa A1 hz
    obtain ⟨a, ha⟩ : ∃ x, x = qs q := ⟨_, rfl⟩
    obtain ⟨d, hd⟩ : ∃ x, x = qt q := ⟨_, rfl⟩
    obtain ⟨u, hu⟩ : ∃ x, x = natS (q.num.natAbs / q.den) := ⟨_, rfl⟩
    obtain ⟨r, hr⟩ : ∃ x, x = natS (q.num.natAbs % q.den) := ⟨_, rfl⟩
    rw [← ha, ← hd] at D k0 k1 hB ⊢
    rw [← hu] at D
    rw [← hr] at D he
    clear ha hd
    rw [← hu] at MD
    clear hu hr hq he
    go_enter Tryd.func88, Tryd.ntmps88
    go_wp2_with fail
    generalize (w.alloc _).alloc _ = w1 at k0 k1 hB ⊢
    refine (D.out _).mono ?_
    rintro e w2 ⟨rfl, hb⟩
    replace k0 := k0.below hb k0.lt
    replace k1 := k1.below hb k1.lt
    replace hB := hB.trans (hb.mono hB.size)
    obtain ⟨a0, _, _, _, _, _⟩ := k0.facts
    clear hb D
    go_wp2_with fail
    refine (MD.out _ hB).mono ?_
    rintro e w4 ⟨rfl, hb⟩
    replace k0 := k0.below hb k0.lt
    replace k1 := k1.below hb k1.lt
    replace hB := hB.trans (hb.mono hB.size)
    clear hb a0 MD
    obtain ⟨_, _, _, f0, f1, f2⟩ := k1.facts
    have HZ := Lib.hid (k1.put nQ sQ tQ)
    clear k1 k0
    go_wp2
    refine bodyPost_ret (results_cell_row Tryd.results88 _ _ (w.heap.size + 1) 27 _ (0, 0) _ rfl HZ.out Tryd.underlying27 rfl (by kernel_rfl)) rfl ?_
    exact ⟨congrArg Ending.returned HV.out, ((hB.setCell (by simp) _).setCell (by simp) _).setCell (by simp) _⟩
  · by_cases h0 : q.num.natAbs % q.den = 0
    · rw [hq, if_neg (by simp [h0])] at hfa
      rw [hq] at k0 k1 hB MD
      rw [decide_eq_true h0] at he
      rw [hfa] at MD
      clear hfa A1 hz h0
      obtain ⟨a, ha⟩ : ∃ x, x = qs q := ⟨_, rfl⟩
      obtain ⟨d, hd⟩ : ∃ x, x = qt q := ⟨_, rfl⟩
      obtain ⟨u, hu⟩ : ∃ x, x = natS (q.num.natAbs / q.den) := ⟨_, rfl⟩
      obtain ⟨r, hr⟩ : ∃ x, x = natS (q.num.natAbs % q.den) := ⟨_, rfl⟩
      rw [← ha, ← hd] at D k0 k1 hB ⊢
      rw [← hu] at D
      rw [← hr] at D he
      clear ha hd
      rw [← hu] at MD
      clear hu hr hq
      go_enter Tryd.func88, Tryd.ntmps88
      go_wp2_with fail
      generalize (w.alloc _).alloc _ = w1 at k0 k1 hB ⊢
      refine (D.out _).mono ?_
      rintro e w2 ⟨rfl, hb⟩
      replace k0 := k0.below hb k0.lt
      replace k1 := k1.below hb k1.lt
      replace hB := hB.trans (hb.mono hB.size)
      obtain ⟨a0, _, _, _, _, _⟩ := k0.facts
      clear hb D
      go_wp2_with fail
      refine (MD.out _ hB).mono ?_
      rintro e w4 ⟨rfl, hb⟩
      replace k0 := k0.below hb k0.lt
      replace k1 := k1.below hb k1.lt
      replace hB := hB.trans (hb.mono hB.size)
      clear hb a0 MD
      obtain ⟨_, _, _, f0, f1, f2⟩ := k1.facts
      have HZ := Lib.hid (k1.put nQ sQ tQ)
      clear k1 k0
      go_wp2
      refine bodyPost_ret (results_cell_row Tryd.results88 _ _ (w.heap.size + 1) 27 _ (0, 0) _ rfl HZ.out Tryd.underlying27 rfl (by kernel_rfl)) rfl ?_
      exact ⟨congrArg Ending.returned HV.out, ((hB.setCell (by simp) _).setCell (by simp) _).setCell (by simp) _⟩
    · rw [hq, if_pos ⟨rfl, h0⟩] at hfa
      rw [hq] at k0 k1 hB MD
      rw [decide_eq_false h0] at he
      rw [hfa] at MD
      clear hfa hz h0
      obtain ⟨a, ha⟩ : ∃ x, x = qs q := ⟨_, rfl⟩
      obtain ⟨d, hd⟩ : ∃ x, x = qt q := ⟨_, rfl⟩
      obtain ⟨u, hu⟩ : ∃ x, x = natS (q.num.natAbs / q.den) := ⟨_, rfl⟩
      obtain ⟨r, hr⟩ : ∃ x, x = natS (q.num.natAbs % q.den) := ⟨_, rfl⟩
      rw [← ha, ← hd] at D k0 k1 hB ⊢
      rw [← hu] at D
      rw [← hr] at D he
      clear ha hd
      rw [← hu] at A1
      obtain ⟨v, hv⟩ : ∃ x, x = natS (q.num.natAbs / q.den + 1) := ⟨_, rfl⟩
      rw [← hv] at A1 MD
      clear hu hr hq hv
      go_enter Tryd.func88, Tryd.ntmps88
      go_wp2_with fail
      generalize (w.alloc _).alloc _ = w1 at k0 k1 hB ⊢
      refine (D.out _).mono ?_
      rintro e w2 ⟨rfl, hb⟩
      replace k0 := k0.below hb k0.lt
      replace k1 := k1.below hb k1.lt
      replace hB := hB.trans (hb.mono hB.size)
      obtain ⟨a0, _, _, _, _, _⟩ := k0.facts
      clear hb D
      go_wp2_with fail
      refine (A1.out _).mono ?_
      rintro e w3 ⟨rfl, hb⟩
      clear a0
      replace k0 := k0.below hb k0.lt
      replace k1 := k1.below hb k1.lt
      replace hB := hB.trans (hb.mono hB.size)
      obtain ⟨a0, _, _, _, _, _⟩ := k0.facts
      clear hb A1
      go_wp2_with fail
      refine (MD.out _ hB).mono ?_
      rintro e w4 ⟨rfl, hb⟩
      replace k0 := k0.below hb k0.lt
      replace k1 := k1.below hb k1.lt
      replace hB := hB.trans (hb.mono hB.size)
      clear hb a0 MD
      obtain ⟨_, _, _, f0, f1, f2⟩ := k1.facts
      have HZ := Lib.hid (k1.put nQ sQ tQ)
      clear k1 k0
      go_wp2
      refine bodyPost_ret (results_cell_row Tryd.results88 _ _ (w.heap.size + 1) 27 _ (0, 0) _ rfl HZ.out Tryd.underlying27 rfl (by kernel_rfl)) rfl ?_
      exact ⟨congrArg Ending.returned HV.out, ((hB.setCell (by simp) _).setCell (by simp) _).setCell (by simp) _⟩
/-- what Floor returns -/
def floorN (q : Rat) : Int := if q.floor.natAbs ≤ 9223372036854775807 then q.floor else 0
def floorE (q : Rat) : Nat := if q.floor.natAbs ≤ 9223372036854775807 then 0 else 2
theorem int_num (z : Int) : (z : Rat).num = z := rfl
set_option maxRecDepth 100000 in
set_option maxHeartbeats 4000000 in
theorem floorq_any (w : World) (n : Bool) (s t : ByteArray) (q : Rat) (hq : fitQ n s t = q) (hs : s.size ≤ 1099511627776) (ht : t.size ≤ 1099511627776) (hT : TabW w) :
    Calls Tryd.prog 66 #[.agg #[.bool n, .string s, .string t]] w fun e w' => e = .returned (.tuple #[.int .i64 (floorN q), .int .i64 (floorE q : Nat)]) ∧ Below w.heap.size w w' := by
  have HTW := Lib.hid (fun W hW => TabW.below (w' := W) hT hW)
  have hz : qz q ≤ 1099511627776 := by rw [← hq]; have := qz_fit n s t; omega
  have HF := Lib.hid (fun W hW => fit_any W n s t (by omega) (by omega) (HTW.out W hW))
  have HW := Lib.hid (fun W hW => whole_any W q (by omega) (HTW.out W hW))
  have HI := Lib.hid (fun W => int_any W (qs (q.floor : Rat)) (by have := floor_len q; unfold qs; rw [natS_size, int_num]; omega))
  rw [show sval (qs (q.floor : Rat)) = q.floor.natAbs by unfold qs; rw [sval_natS, int_num]] at HI
  rw [hq] at HF
  unfold QV at HF HW
  have hqn : qn (q.floor : Rat) = decide (q.floor < 0) := rfl
  have HR := Lib.hid (show (if qn (q.floor : Rat) = true then -(((intF q.floor.natAbs).1 : Nat) : Int) else (((intF q.floor.natAbs).1 : Nat) : Int)) = floorN q ∧ (intF q.floor.natAbs).2 = floorE q by
    unfold intF floorN floorE
    rw [hqn]
    by_cases h : q.floor.natAbs ≤ 9223372036854775807
    · simp only [h, if_true]
      refine ⟨?_, trivial⟩
      by_cases h2 : q.floor < 0
      · rw [decide_eq_true h2, if_pos rfl]; omega
      · rw [decide_eq_false h2, if_neg (by decide)]; omega
    · simp only [h, if_false]
      refine ⟨?_, trivial⟩
      split <;> rfl)
  have hir : (intF q.floor.natAbs).1 ≤ 9223372036854775807 := by unfold intF; split <;> omega
  have hB : Below w.heap.size w (w.alloc (.cells #[.bool n, .string s, .string t] 27)) := (Below.refl w.heap.size w).alloc (Nat.le_refl _) _
  have k0 := R3.new w n s t
  obtain ⟨b, hb⟩ : ∃ x, x = qn q := ⟨_, rfl⟩
  obtain ⟨a, ha⟩ : ∃ x, x = qs q := ⟨_, rfl⟩
  obtain ⟨d, hd⟩ : ∃ x, x = qt q := ⟨_, rfl⟩
  obtain ⟨fb, hfb⟩ : ∃ x, x = qn (q.floor : Rat) := ⟨_, rfl⟩
  obtain ⟨fa, hfa⟩ : ∃ x, x = qs (q.floor : Rat) := ⟨_, rfl⟩
  obtain ⟨fd, hfd⟩ : ∃ x, x = qt (q.floor : Rat) := ⟨_, rfl⟩
  obtain ⟨N, hN⟩ : ∃ x, x = (intF q.floor.natAbs).1 := ⟨_, rfl⟩
  obtain ⟨E, hE⟩ : ∃ x, x = (intF q.floor.natAbs).2 := ⟨_, rfl⟩
  rw [← hb, ← ha, ← hd] at HF HW
  rw [← hfb, ← hfa, ← hfd] at HW
  rw [← hfa, ← hN, ← hE] at HI
  rw [← hfb, ← hN, ← hE] at HR
  rw [← hN] at hir
  have hwn : IntKind.i64.wrap (-(N : Int)) = -(N : Int) := by rw [IntKind.wrap_i64]; omega
  clear hb ha hd hfb hfa hfd hN hE hqn hq hz hT hs ht hir
  go_enter Tryd.func66, Tryd.ntmps66
  go_wp2_with fail
  generalize w.alloc _ = w1 at k0 hB ⊢
  refine (HF.out _ hB).mono ?_
  rintro e w2 ⟨rfl, hb⟩
  replace k0 := k0.below hb k0.lt
  replace hB := hB.trans (hb.mono hB.size)
  clear hb HF
  go_wp2_with fail
  refine (HW.out _ hB).mono ?_
  rintro e w3 ⟨rfl, hb⟩
  replace k0 := k0.below hb k0.lt
  replace hB := hB.trans (hb.mono hB.size)
  obtain ⟨_, _, _, f0, f1, f2⟩ := k0.facts
  have k1 := k0.put fb fa fd
  clear hb HW k0
  go_wp2_with fail
  clear f0 f1 f2
  replace hB : Below w.heap.size w (((w3.setCell ⟨w.heap.size, 0, none⟩ (.bool fb)).setCell ⟨w.heap.size, 1, none⟩ (.string fa)).setCell ⟨w.heap.size, 2, none⟩ (.string fd)) := ((hB.setCell (by simp) _).setCell (by simp) _).setCell (by simp) _
  generalize ((w3.setCell _ _).setCell _ _).setCell _ _ = w4 at k1 hB ⊢
  refine (HI.out _).mono ?_
  rintro e w5 ⟨rfl, rfl⟩
  obtain ⟨c0, _, _, _, _, _⟩ := k1.facts
  clear k1 HI
  cases fb
  · go_wp2
    refine bodyPost_ret (results_tmp2 rfl _ _ _) rfl ?_
    exact ⟨by rw [← HR.out.1, ← HR.out.2]; rfl, hB⟩
  · go_wp2
    refine bodyPost_ret (results_tmp2 rfl _ _ _) rfl ?_
    exact ⟨by rw [← HR.out.1, ← HR.out.2]; rfl, hB⟩
end Go.Proofs.YthmgcbpmfipfiaaDoor
