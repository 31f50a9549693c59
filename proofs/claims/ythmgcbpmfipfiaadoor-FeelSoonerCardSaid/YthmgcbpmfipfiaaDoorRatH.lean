/- rat.Min, rat.Max, rat.Sub. Conditions: those typed. -/
import Derived.Test.YthmgcbpmfipfiaaDoorRatD
import Derived.Test.YthmgcbpmfipfiaaDoorRatE
import Derived.Test.YthmgcbpmfipfiaaDoorRatF
import Derived.Test.YthmgcbpmfipfiaaDoorRatG
import Derived.Deep.RegionHeld3
namespace Go.Proofs.YthmgcbpmfipfiaaDoor
open Go.RowKit Go.Gy
set_option linter.unusedVariables false
/-- the lesser one, the greater one -/
def minQ (a b : Rat) : Rat := if b < a then b else a
def maxQ (a b : Rat) : Rat := if a < b then b else a
theorem cmpQ_le (a b : Rat) : cmpQ a b ≤ 0 ↔ ¬ b < a := by
  unfold cmpQ
  by_cases h1 : a < b
  · rw [if_pos h1]; exact ⟨fun _ => by grind, fun _ => by decide⟩
  · rw [if_neg h1]
    by_cases h2 : b < a
    · rw [if_pos h2]; exact ⟨fun h => absurd h (by decide), fun h => absurd h2 h⟩
    · rw [if_neg h2]; exact ⟨fun _ => h2, fun _ => by decide⟩
theorem cmpQ_ge (a b : Rat) : 0 ≤ cmpQ a b ↔ ¬ a < b := by
  unfold cmpQ
  by_cases h1 : a < b
  · rw [if_pos h1]; exact ⟨fun h => absurd h (by decide), fun h => absurd h1 h⟩
  · rw [if_neg h1]
    exact ⟨fun _ => h1, fun _ => by split <;> decide⟩
/-- the order's value as a number -/
theorem cmpQ_range (a b : Rat) : -1 ≤ cmpQ a b ∧ cmpQ a b ≤ 1 := by
  unfold cmpQ
  constructor <;> (repeat' split) <;> decide
set_option maxRecDepth 100000 in
set_option maxHeartbeats 4000000 in
theorem minq_any (w : World) (n1 : Bool) (s1 t1 : ByteArray) (n2 : Bool) (s2 t2 : ByteArray) (q1 q2 : Rat) (hq1 : fitQ n1 s1 t1 = q1) (hq2 : fitQ n2 s2 t2 = q2) (hs1 : s1.size ≤ 1099511627776) (ht1 : t1.size ≤ 1099511627776) (hs2 : s2.size ≤ 1099511627776) (ht2 : t2.size ≤ 1099511627776) (hT : TabW w) :
    Calls Tryd.prog 28 #[.agg #[.bool n1, .string s1, .string t1], .agg #[.bool n2, .string s2, .string t2]] w fun e w' => e = .returned (QV (minQ q1 q2)) ∧ Below w.heap.size w w' := by
  have HTW := Lib.hid (fun W hW => TabW.below (w' := W) hT hW)
  have HC := Lib.hid (fun W hW => cmpq_any W n1 s1 t1 n2 s2 t2 q1 q2 hq1 hq2 hs1 ht1 hs2 ht2 (HTW.out W hW))
  have HF1 := Lib.hid (fun W hW => fit_any W n1 s1 t1 (by omega) (by omega) (HTW.out W hW))
  have HF2 := Lib.hid (fun W hW => fit_any W n2 s2 t2 (by omega) (by omega) (HTW.out W hW))
  rw [hq1] at HF1
  rw [hq2] at HF2
  unfold QV at HF1 HF2
  have hle := cmpQ_le q1 q2
  obtain ⟨k0, k1, k2, hB⟩ := R3.three w n1 s1 t1 n2 s2 t2
  obtain ⟨c, hc⟩ : ∃ c, c = cmpQ q1 q2 := ⟨_, rfl⟩
  rw [← hc] at HC hle
  clear hc hT hq1 hq2
  by_cases h : c ≤ 0
  · have HV := Lib.hid (show QV q1 = QV (minQ q1 q2) by unfold minQ; rw [if_neg (hle.mp h)])
    have HI := Lib.hid (show (Value.agg #[.bool (qn q1), .string (qs q1), .string (qt q1)]) = QV q1 from rfl)
    obtain ⟨b, hb⟩ : ∃ x, x = qn q1 := ⟨_, rfl⟩
    obtain ⟨a, ha⟩ : ∃ x, x = qs q1 := ⟨_, rfl⟩
    obtain ⟨d, hd⟩ : ∃ x, x = qt q1 := ⟨_, rfl⟩
    rw [← hb, ← ha, ← hd] at HF1 HI
    have hcx : c ≤ 0 := h
    clear hb ha hd hle
    go_enter Tryd.func28, Tryd.ntmps28
    go_wp2_with fail
    generalize ((w.alloc _).alloc _).alloc _ = w1 at k0 k1 k2 hB ⊢
    refine (HC.out _ hB).mono ?_
    rintro e w2 ⟨rfl, hb2⟩
    replace k0 := k0.below hb2 k0.lt
    replace k1 := k1.below hb2 k1.lt
    replace k2 := k2.below hb2 k2.lt
    replace hB := hB.trans (hb2.mono hB.size)
    obtain ⟨a0, a1, a2, _, _, _⟩ := k0.facts
    have HB := Lib.hid hB
    clear hb2 k0 k1 hB HC
    go_wp2_with fail
    refine (HF1.out _ HB.out).mono ?_
    rintro e w3 ⟨rfl, hb3⟩
    replace k2 := k2.below hb3 k2.lt
    have hfin := HB.out.trans (hb3.mono HB.out.size)
    obtain ⟨_, _, _, f0, f1, f2⟩ := k2.facts
    have HZ := Lib.hid (k2.put b a d)
    clear hb3 a0 a1 a2 k2 HF1 HF2
    go_wp2
    refine bodyPost_ret (results_cell_row Tryd.results28 _ _ (w.heap.size + 2) 27 _ (0, 0) _ rfl HZ.out Tryd.underlying27 rfl (by kernel_rfl)) rfl ?_
    exact ⟨congrArg Ending.returned (HI.out.trans HV.out), ((hfin.setCell (by simp; omega) _).setCell (by simp; omega) _).setCell (by simp; omega) _⟩
  · have HV := Lib.hid (show QV q2 = QV (minQ q1 q2) by unfold minQ; rw [if_pos (Decidable.not_not.mp (fun h1 => h (hle.mpr h1)))])
    have HI := Lib.hid (show (Value.agg #[.bool (qn q2), .string (qs q2), .string (qt q2)]) = QV q2 from rfl)
    obtain ⟨b, hb⟩ : ∃ x, x = qn q2 := ⟨_, rfl⟩
    obtain ⟨a, ha⟩ : ∃ x, x = qs q2 := ⟨_, rfl⟩
    obtain ⟨d, hd⟩ : ∃ x, x = qt q2 := ⟨_, rfl⟩
    rw [← hb, ← ha, ← hd] at HF2 HI
    have hcx : ¬ c ≤ 0 := h
    clear hb ha hd hle
    go_enter Tryd.func28, Tryd.ntmps28
    go_wp2_with fail
    generalize ((w.alloc _).alloc _).alloc _ = w1 at k0 k1 k2 hB ⊢
    refine (HC.out _ hB).mono ?_
    rintro e w2 ⟨rfl, hb2⟩
    replace k0 := k0.below hb2 k0.lt
    replace k1 := k1.below hb2 k1.lt
    replace k2 := k2.below hb2 k2.lt
    replace hB := hB.trans (hb2.mono hB.size)
    obtain ⟨a0, a1, a2, _, _, _⟩ := k1.facts
    have HB := Lib.hid hB
    clear hb2 k0 k1 hB HC
    go_wp2_with fail
    refine (HF2.out _ HB.out).mono ?_
    rintro e w3 ⟨rfl, hb3⟩
    replace k2 := k2.below hb3 k2.lt
    have hfin := HB.out.trans (hb3.mono HB.out.size)
    obtain ⟨_, _, _, f0, f1, f2⟩ := k2.facts
    have HZ := Lib.hid (k2.put b a d)
    clear hb3 a0 a1 a2 k2 HF1 HF2
    go_wp2
    refine bodyPost_ret (results_cell_row Tryd.results28 _ _ (w.heap.size + 2) 27 _ (0, 0) _ rfl HZ.out Tryd.underlying27 rfl (by kernel_rfl)) rfl ?_
    exact ⟨congrArg Ending.returned (HI.out.trans HV.out), ((hfin.setCell (by simp; omega) _).setCell (by simp; omega) _).setCell (by simp; omega) _⟩
set_option maxRecDepth 100000 in
set_option maxHeartbeats 4000000 in
theorem maxq_any (w : World) (n1 : Bool) (s1 t1 : ByteArray) (n2 : Bool) (s2 t2 : ByteArray) (q1 q2 : Rat) (hq1 : fitQ n1 s1 t1 = q1) (hq2 : fitQ n2 s2 t2 = q2) (hs1 : s1.size ≤ 1099511627776) (ht1 : t1.size ≤ 1099511627776) (hs2 : s2.size ≤ 1099511627776) (ht2 : t2.size ≤ 1099511627776) (hT : TabW w) :
    Calls Tryd.prog 29 #[.agg #[.bool n1, .string s1, .string t1], .agg #[.bool n2, .string s2, .string t2]] w fun e w' => e = .returned (QV (maxQ q1 q2)) ∧ Below w.heap.size w w' := by
  have HTW := Lib.hid (fun W hW => TabW.below (w' := W) hT hW)
  have HC := Lib.hid (fun W hW => cmpq_any W n1 s1 t1 n2 s2 t2 q1 q2 hq1 hq2 hs1 ht1 hs2 ht2 (HTW.out W hW))
  have HF1 := Lib.hid (fun W hW => fit_any W n1 s1 t1 (by omega) (by omega) (HTW.out W hW))
  have HF2 := Lib.hid (fun W hW => fit_any W n2 s2 t2 (by omega) (by omega) (HTW.out W hW))
  rw [hq1] at HF1
  rw [hq2] at HF2
  unfold QV at HF1 HF2
  have hle := cmpQ_ge q1 q2
  obtain ⟨k0, k1, k2, hB⟩ := R3.three w n1 s1 t1 n2 s2 t2
  obtain ⟨c, hc⟩ : ∃ c, c = cmpQ q1 q2 := ⟨_, rfl⟩
  rw [← hc] at HC hle
  clear hc hT hq1 hq2
  by_cases h : 0 ≤ c
  · have HV := Lib.hid (show QV q1 = QV (maxQ q1 q2) by unfold maxQ; rw [if_neg (hle.mp h)])
    have HI := Lib.hid (show (Value.agg #[.bool (qn q1), .string (qs q1), .string (qt q1)]) = QV q1 from rfl)
    obtain ⟨b, hb⟩ : ∃ x, x = qn q1 := ⟨_, rfl⟩
    obtain ⟨a, ha⟩ : ∃ x, x = qs q1 := ⟨_, rfl⟩
    obtain ⟨d, hd⟩ : ∃ x, x = qt q1 := ⟨_, rfl⟩
    rw [← hb, ← ha, ← hd] at HF1 HI
    have hcx : c ≥ 0 := h
    clear hb ha hd hle
    go_enter Tryd.func29, Tryd.ntmps29
    go_wp2_with fail
    generalize ((w.alloc _).alloc _).alloc _ = w1 at k0 k1 k2 hB ⊢
    refine (HC.out _ hB).mono ?_
    rintro e w2 ⟨rfl, hb2⟩
    replace k0 := k0.below hb2 k0.lt
    replace k1 := k1.below hb2 k1.lt
    replace k2 := k2.below hb2 k2.lt
    replace hB := hB.trans (hb2.mono hB.size)
    obtain ⟨a0, a1, a2, _, _, _⟩ := k0.facts
    have HB := Lib.hid hB
    clear hb2 k0 k1 hB HC
    go_wp2_with fail
    refine (HF1.out _ HB.out).mono ?_
    rintro e w3 ⟨rfl, hb3⟩
    replace k2 := k2.below hb3 k2.lt
    have hfin := HB.out.trans (hb3.mono HB.out.size)
    obtain ⟨_, _, _, f0, f1, f2⟩ := k2.facts
    have HZ := Lib.hid (k2.put b a d)
    clear hb3 a0 a1 a2 k2 HF1 HF2
    go_wp2
    refine bodyPost_ret (results_cell_row Tryd.results29 _ _ (w.heap.size + 2) 27 _ (0, 0) _ rfl HZ.out Tryd.underlying27 rfl (by kernel_rfl)) rfl ?_
    exact ⟨congrArg Ending.returned (HI.out.trans HV.out), ((hfin.setCell (by simp; omega) _).setCell (by simp; omega) _).setCell (by simp; omega) _⟩
  · have HV := Lib.hid (show QV q2 = QV (maxQ q1 q2) by unfold maxQ; rw [if_pos (Decidable.not_not.mp (fun h1 => h (hle.mpr h1)))])
    have HI := Lib.hid (show (Value.agg #[.bool (qn q2), .string (qs q2), .string (qt q2)]) = QV q2 from rfl)
    obtain ⟨b, hb⟩ : ∃ x, x = qn q2 := ⟨_, rfl⟩
    obtain ⟨a, ha⟩ : ∃ x, x = qs q2 := ⟨_, rfl⟩
    obtain ⟨d, hd⟩ : ∃ x, x = qt q2 := ⟨_, rfl⟩
    rw [← hb, ← ha, ← hd] at HF2 HI
    have hcx : ¬ c ≥ 0 := h
    clear hb ha hd hle
    go_enter Tryd.func29, Tryd.ntmps29
    go_wp2_with fail
    generalize ((w.alloc _).alloc _).alloc _ = w1 at k0 k1 k2 hB ⊢
    refine (HC.out _ hB).mono ?_
    rintro e w2 ⟨rfl, hb2⟩
    replace k0 := k0.below hb2 k0.lt
    replace k1 := k1.below hb2 k1.lt
    replace k2 := k2.below hb2 k2.lt
    replace hB := hB.trans (hb2.mono hB.size)
    obtain ⟨a0, a1, a2, _, _, _⟩ := k1.facts
    have HB := Lib.hid hB
    clear hb2 k0 k1 hB HC
    go_wp2_with fail
    refine (HF2.out _ HB.out).mono ?_
    rintro e w3 ⟨rfl, hb3⟩
    replace k2 := k2.below hb3 k2.lt
    have hfin := HB.out.trans (hb3.mono HB.out.size)
    obtain ⟨_, _, _, f0, f1, f2⟩ := k2.facts
    have HZ := Lib.hid (k2.put b a d)
    clear hb3 a0 a1 a2 k2 HF1 HF2
    go_wp2
    refine bodyPost_ret (results_cell_row Tryd.results29 _ _ (w.heap.size + 2) 27 _ (0, 0) _ rfl HZ.out Tryd.underlying27 rfl (by kernel_rfl)) rfl ?_
    exact ⟨congrArg Ending.returned (HI.out.trans HV.out), ((hfin.setCell (by simp; omega) _).setCell (by simp; omega) _).setCell (by simp; omega) _⟩
set_option maxRecDepth 100000 in
set_option maxHeartbeats 4000000 in
theorem subq_any (w : World) (n1 : Bool) (s1 t1 : ByteArray) (n2 : Bool) (s2 t2 : ByteArray) (q1 q2 : Rat) (hq1 : fitQ n1 s1 t1 = q1) (hq2 : fitQ n2 s2 t2 = q2) (hs1 : s1.size ≤ 1099511627776) (ht1 : t1.size ≤ 1099511627776) (hs2 : s2.size ≤ 1099511627776) (ht2 : t2.size ≤ 1099511627776) (hT : TabW w) :
    Calls Tryd.prog 39 #[.agg #[.bool n1, .string s1, .string t1], .agg #[.bool n2, .string s2, .string t2]] w fun e w' => e = .returned (QV (q1 - q2)) ∧ Below w.heap.size w w' := by
  have HTW := Lib.hid (fun W hW => TabW.below (w' := W) hT hW)
  have hz2 : qz q2 ≤ 1099511627776 := by rw [← hq2]; have := qz_fit n2 s2 t2; omega
  have HN := Lib.hid (fun W hW => negq_any W n2 s2 t2 q2 hq2 (by omega) (by omega) (HTW.out W hW))
  have HA := Lib.hid (fun W hW => addq_any W n1 s1 t1 (qn (-q2)) (qs (-q2)) (qt (-q2)) q1 (-q2) hq1 (fit_parts _) hs1 ht1 (by have := qs_size (-q2); rw [qz_neg] at this; omega) (by have := qt_size (-q2); rw [qz_neg] at this; omega) (HTW.out W hW))
  rw [show q1 + -q2 = q1 - q2 from (Rat.sub_eq_add_neg q1 q2).symm] at HA
  unfold QV at HN HA
  have HI := Lib.hid (show (Value.agg #[.bool (qn (q1 - q2)), .string (qs (q1 - q2)), .string (qt (q1 - q2))]) = QV (q1 - q2) from rfl)
  obtain ⟨b, hb⟩ : ∃ x, x = qn (q1 - q2) := ⟨_, rfl⟩
  obtain ⟨a, ha⟩ : ∃ x, x = qs (q1 - q2) := ⟨_, rfl⟩
  obtain ⟨d, hd⟩ : ∃ x, x = qt (q1 - q2) := ⟨_, rfl⟩
  obtain ⟨nb, hnb⟩ : ∃ x, x = qn (-q2) := ⟨_, rfl⟩
  obtain ⟨na, hna⟩ : ∃ x, x = qs (-q2) := ⟨_, rfl⟩
  obtain ⟨nd, hnd⟩ : ∃ x, x = qt (-q2) := ⟨_, rfl⟩
  rw [← hb, ← ha, ← hd, ← hnb, ← hna, ← hnd] at HA
  rw [← hnb, ← hna, ← hnd] at HN
  rw [← hb, ← ha, ← hd] at HI
  clear hb ha hd hnb hna hnd hz2 hT hs1 ht1 hs2 ht2 hq1 hq2
  obtain ⟨k0, k1, k2, hB⟩ := R3.three w n1 s1 t1 n2 s2 t2
  go_enter Tryd.func39, Tryd.ntmps39
  go_upto_region 1 with (fail)
  generalize ((w.alloc _).alloc _).alloc _ = w1 at k0 k1 k2 hB ⊢
  have HS := Lib.hid (show ∀ w', Below (w.heap.size + 2) w1 w' → w'.cell? ⟨w.heap.size, 0, none⟩ = some (.bool n1) ∧ w'.cell? ⟨w.heap.size, 1, none⟩ = some (.string s1) ∧ w'.cell? ⟨w.heap.size, 2, none⟩ = some (.string t1) ∧ w'.cell? ⟨w.heap.size + 1, 0, none⟩ = some (.bool n2) ∧ w'.cell? ⟨w.heap.size + 1, 1, none⟩ = some (.string s2) ∧ w'.cell? ⟨w.heap.size + 1, 2, none⟩ = some (.string t2) from fun w' hb => by
    obtain ⟨h1, h2, h3, _⟩ := (k0.below hb (by omega)).facts
    obtain ⟨h4, h5, h6, _⟩ := (k1.below hb (by omega)).facts
    exact ⟨h1, h2, h3, h4, h5, h6⟩)
  have hb0 := Lib.hid (Below.refl (w.heap.size + 2) w1)
  have hsz := k2.lt
  have HB := Lib.hid hB
  clear k0 k1 hB
  go_region_held3 (fun w' => w'.cell? ⟨w.heap.size, 0, none⟩ = some (.bool n1) ∧ w'.cell? ⟨w.heap.size, 1, none⟩ = some (.string s1) ∧ w'.cell? ⟨w.heap.size, 2, none⟩ = some (.string t1) ∧ w'.cell? ⟨w.heap.size + 1, 0, none⟩ = some (.bool n2) ∧ w'.cell? ⟨w.heap.size + 1, 1, none⟩ = some (.string s2) ∧ w'.cell? ⟨w.heap.size + 1, 2, none⟩ = some (.string t2))
    (with_reducible (first
      | exact HS.out _ (((hr4.setCell (p := ⟨w.heap.size + 2, 0, none⟩) (Nat.le_refl _) (.bool b)).setCell (p := ⟨w.heap.size + 2, 1, none⟩) (Nat.le_refl _) (.string a)).setCell (p := ⟨w.heap.size + 2, 2, none⟩) (Nat.le_refl _) (.string d))
      | exact HS.out _ hr4
      | exact HS.out _ hr3
      | exact HS.out _ hb0.out.drew))
    (first
      | (go_at_call 38; refine (HN.out _ HB.out.drew).mono ?_; rintro e w3 ⟨rfl, hb3⟩; have hr3 := hb0.out.drew.trans (hb3.mono (show w.heap.size + 2 ≤ w1.heap.size by omega)); have kr3 := k2.drew.below hb3 k2.lt)
      | (go_at_call 17; refine (HA.out _ (HB.out.trans (hr3.mono (by omega)))).mono ?_; rintro e w4 ⟨rfl, hb4⟩; have hr4 := hr3.trans (hb4.mono (by have := hr3.size; omega)); have kr4 := kr3.below hb4 kr3.lt; obtain ⟨_, _, _, f0, f1, f2⟩ := kr4.facts))
  rename_i hHeld
  clear hHeld
  have HZ := Lib.hid (kr4.put b a d)
  have hfin : Below w.heap.size w w4 := HB.out.trans (hr4.mono (by omega))
  clear f0 f1 f2 kr3 kr4 hr3 hr4 hb3 hb4 HN HA HS
  go_wp2
  refine bodyPost_ret (results_cell_row Tryd.results39 _ _ (w.heap.size + 2) 27 _ (0, 0) _ rfl HZ.out Tryd.underlying27 rfl (by kernel_rfl)) rfl ?_
  exact ⟨congrArg Ending.returned HI.out, ((hfin.setCell (by simp; omega) _).setCell (by simp; omega) _).setCell (by simp; omega) _⟩
end Go.Proofs.YthmgcbpmfipfiaaDoor
