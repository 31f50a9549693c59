/- rat.Neg, rat.Abs, rat.Sign. Conditions: those typed. -/
import Derived.Test.YthmgcbpmfipfiaaDoorRatB
namespace Go.Proofs.YthmgcbpmfipfiaaDoor
open Go.RowKit Go.Gy
set_option linter.unusedVariables false
theorem qs_empty (q : Rat) : (qs q).toList.isEmpty = decide (q = 0) := by
  unfold qs
  rw [natS_empty, Bool.eq_iff_iff, decide_eq_true_iff, decide_eq_true_iff, Int.natAbs_eq_zero, Rat.num_eq_zero]
theorem parts_neg (q : Rat) : QV (-q) = .agg #[.bool (!qn q && decide (q ≠ 0)), .string (qs q), .string (qt q)] := by
  have h1 : qn (-q) = (!qn q && decide (q ≠ 0)) := by
    unfold qn
    rw [Rat.neg_num, Bool.eq_iff_iff, Bool.and_eq_true, Bool.not_eq_true', decide_eq_true_iff, decide_eq_false_iff_not, decide_eq_true_iff, ne_eq, ← Rat.num_eq_zero]
    omega
  unfold QV
  rw [h1]
  unfold qs qt
  rw [Rat.neg_num, Int.natAbs_neg, Rat.neg_den]
/-- the absolute value -/
def absQ (q : Rat) : Rat := if q < 0 then -q else q
theorem qn_iff (q : Rat) : qn q = true ↔ q < 0 := by
  unfold qn
  rw [decide_eq_true_iff, Rat.lt_iff]
  simp
theorem parts_abs (q : Rat) : QV (absQ q) = .agg #[.bool false, .string (qs q), .string (qt q)] := by
  unfold absQ
  by_cases h : q < 0
  · rw [if_pos h, parts_neg, (qn_iff q).mpr h]; rfl
  · rw [if_neg h]
    unfold QV
    rw [show qn q = false from Bool.eq_false_iff.mpr (fun h1 => h ((qn_iff q).mp h1))]
/-- the sign -/
def signQ (q : Rat) : Int := if q = 0 then 0 else if q < 0 then -1 else 1
set_option maxRecDepth 100000 in
set_option maxHeartbeats 4000000 in
theorem negq_any (w : World) (n : Bool) (s t : ByteArray) (q : Rat) (hq : fitQ n s t = q) (hs : s.size ≤ 8796093022208) (ht : t.size ≤ 8796093022208) (hT : TabW w) :
    Calls Tryd.prog 38 #[.agg #[.bool n, .string s, .string t]] w fun e w' => e = .returned (QV (-q)) ∧ Below w.heap.size w w' := by
  have HF := Lib.hid (fun W hW => fit_any W n s t (by omega) (by omega) (TabW.below (w' := W) hT hW))
  rw [hq] at HF
  unfold QV at HF
  clear hT hs ht hq
  have he := qs_empty q
  have HP := Lib.hid (parts_neg q)
  obtain ⟨b, hb⟩ : ∃ x, x = qn q := ⟨_, rfl⟩
  obtain ⟨a, ha⟩ : ∃ x, x = qs q := ⟨_, rfl⟩
  obtain ⟨d, hd⟩ : ∃ x, x = qt q := ⟨_, rfl⟩
  rw [← ha] at he
  rw [← hb, ← ha, ← hd] at HP HF
  clear hb ha hd
  cases b
  · by_cases h0 : q = 0
    · rw [decide_eq_true h0] at he
      have HV := Lib.hid (show Value.agg #[.bool false, .string a, .string d] = QV (-q) by rw [HP.out, decide_eq_false (not_not_intro h0)]; rfl)
      clear h0 HP
      obtain ⟨k0, k1, hB, hz⟩ := R3.two w n s t false { data := #[] } { data := #[] }
      go_enter Tryd.func38, Tryd.ntmps38
      go_wp2_with fail
      generalize (w.alloc _).alloc _ = w1 at k0 k1 hB hz ⊢
      refine (HF.out _ hB).mono ?_
      rintro e w2 ⟨rfl, hb2⟩
      replace k0 := k0.below hb2 (by omega)
      replace k1 := k1.below hb2 (by omega)
      obtain ⟨_, _, _, g0, g1, g2⟩ := k0.facts
      obtain ⟨_, _, _, f0, f1, f2⟩ := k1.facts
      have hfin := hB.trans (hb2.mono hB.size)
      have HZ := Lib.hid (((k1.far3 (b := w.heap.size) (by omega) (.bool false) (.string a) (.string d)).far (p := ⟨w.heap.size, 0, none⟩) (by simp) (.bool false)).put false a d)
      clear hb2 k0 k1 HF hB
      go_wp2
      refine bodyPost_ret (results_cell_row Tryd.results38 _ _ (w.heap.size + 1) 27 _ (0, 0) _ rfl HZ.out Tryd.underlying27 rfl (by kernel_rfl)) rfl ?_
      exact ⟨congrArg Ending.returned HV.out, (((((((hfin.setCell (by simp) _).setCell (by simp) _).setCell (by simp) _).setCell (by simp) _).setCell (by simp) _).setCell (by simp) _).setCell (by simp) _)⟩
    · rw [decide_eq_false h0] at he
      have HV := Lib.hid (show Value.agg #[.bool true, .string a, .string d] = QV (-q) by rw [HP.out, decide_eq_true h0]; rfl)
      clear h0 HP
      obtain ⟨k0, k1, hB, hz⟩ := R3.two w n s t false { data := #[] } { data := #[] }
      go_enter Tryd.func38, Tryd.ntmps38
      go_wp2_with fail
      generalize (w.alloc _).alloc _ = w1 at k0 k1 hB hz ⊢
      refine (HF.out _ hB).mono ?_
      rintro e w2 ⟨rfl, hb2⟩
      replace k0 := k0.below hb2 (by omega)
      replace k1 := k1.below hb2 (by omega)
      obtain ⟨_, _, _, g0, g1, g2⟩ := k0.facts
      obtain ⟨_, _, _, f0, f1, f2⟩ := k1.facts
      have hfin := hB.trans (hb2.mono hB.size)
      have HZ := Lib.hid (((k1.far3 (b := w.heap.size) (by omega) (.bool false) (.string a) (.string d)).far (p := ⟨w.heap.size, 0, none⟩) (by simp) (.bool true)).put true a d)
      clear hb2 k0 k1 HF hB
      go_wp2
      refine bodyPost_ret (results_cell_row Tryd.results38 _ _ (w.heap.size + 1) 27 _ (0, 0) _ rfl HZ.out Tryd.underlying27 rfl (by kernel_rfl)) rfl ?_
      exact ⟨congrArg Ending.returned HV.out, (((((((hfin.setCell (by simp) _).setCell (by simp) _).setCell (by simp) _).setCell (by simp) _).setCell (by simp) _).setCell (by simp) _).setCell (by simp) _)⟩
  · have HV := Lib.hid (show Value.agg #[.bool false, .string a, .string d] = QV (-q) by rw [HP.out]; rfl)
    clear he HP
    obtain ⟨k0, k1, hB, hz⟩ := R3.two w n s t false { data := #[] } { data := #[] }
    go_enter Tryd.func38, Tryd.ntmps38
    go_wp2_with fail
    generalize (w.alloc _).alloc _ = w1 at k0 k1 hB hz ⊢
    refine (HF.out _ hB).mono ?_
    rintro e w2 ⟨rfl, hb2⟩
    replace k0 := k0.below hb2 (by omega)
    replace k1 := k1.below hb2 (by omega)
    obtain ⟨_, _, _, g0, g1, g2⟩ := k0.facts
    obtain ⟨_, _, _, f0, f1, f2⟩ := k1.facts
    have hfin := hB.trans (hb2.mono hB.size)
    have HZ := Lib.hid (((k1.far3 (b := w.heap.size) (by omega) (.bool true) (.string a) (.string d)).far (p := ⟨w.heap.size, 0, none⟩) (by simp) (.bool false)).put false a d)
    clear hb2 k0 k1 HF hB
    go_wp2
    refine bodyPost_ret (results_cell_row Tryd.results38 _ _ (w.heap.size + 1) 27 _ (0, 0) _ rfl HZ.out Tryd.underlying27 rfl (by kernel_rfl)) rfl ?_
    exact ⟨congrArg Ending.returned HV.out, (((((((hfin.setCell (by simp) _).setCell (by simp) _).setCell (by simp) _).setCell (by simp) _).setCell (by simp) _).setCell (by simp) _).setCell (by simp) _)⟩
set_option maxRecDepth 100000 in
set_option maxHeartbeats 4000000 in
theorem absq_any (w : World) (n : Bool) (s t : ByteArray) (q : Rat) (hq : fitQ n s t = q) (hs : s.size ≤ 8796093022208) (ht : t.size ≤ 8796093022208) (hT : TabW w) :
    Calls Tryd.prog 18 #[.agg #[.bool n, .string s, .string t]] w fun e w' => e = .returned (QV (absQ q)) ∧ Below w.heap.size w w' := by
  have HF := Lib.hid (fun W hW => fit_any W n s t (by omega) (by omega) (TabW.below (w' := W) hT hW))
  rw [hq] at HF
  unfold QV at HF
  clear hT hs ht hq
  have HV := Lib.hid (parts_abs q).symm
  obtain ⟨b, hb⟩ : ∃ x, x = qn q := ⟨_, rfl⟩
  obtain ⟨a, ha⟩ : ∃ x, x = qs q := ⟨_, rfl⟩
  obtain ⟨d, hd⟩ : ∃ x, x = qt q := ⟨_, rfl⟩
  rw [← ha, ← hd] at HV
  rw [← hb, ← ha, ← hd] at HF
  clear hb ha hd
  obtain ⟨k0, k1, hB, hz⟩ := R3.two w n s t false { data := #[] } { data := #[] }
  go_enter Tryd.func18, Tryd.ntmps18
  go_wp2_with fail
  generalize (w.alloc _).alloc _ = w1 at k0 k1 hB hz ⊢
  refine (HF.out _ hB).mono ?_
  rintro e w2 ⟨rfl, hb2⟩
  replace k0 := k0.below hb2 (by omega)
  replace k1 := k1.below hb2 (by omega)
  obtain ⟨_, _, _, g0, g1, g2⟩ := k0.facts
  obtain ⟨_, _, _, f0, f1, f2⟩ := k1.facts
  have hfin := hB.trans (hb2.mono hB.size)
  have HZ := Lib.hid (((k1.far3 (b := w.heap.size) (by omega) (.bool b) (.string a) (.string d)).far (p := ⟨w.heap.size, 0, none⟩) (by simp) (.bool false)).put false a d)
  clear hb2 k0 k1 HF hB
  go_wp2
  refine bodyPost_ret (results_cell_row Tryd.results18 _ _ (w.heap.size + 1) 27 _ (0, 0) _ rfl HZ.out Tryd.underlying27 rfl (by kernel_rfl)) rfl ?_
  exact ⟨congrArg Ending.returned HV.out, (((((((hfin.setCell (by simp) _).setCell (by simp) _).setCell (by simp) _).setCell (by simp) _).setCell (by simp) _).setCell (by simp) _).setCell (by simp) _)⟩
set_option maxRecDepth 100000 in
set_option maxHeartbeats 4000000 in
theorem signq_any (w : World) (n : Bool) (s t : ByteArray) (q : Rat) (hq : fitQ n s t = q) (hs : s.size ≤ 8796093022208) (ht : t.size ≤ 8796093022208) (hT : TabW w) :
    Calls Tryd.prog 35 #[.agg #[.bool n, .string s, .string t]] w fun e w' => e = .returned (.int .i64 (signQ q)) ∧ Below w.heap.size w w' := by
  have HF := Lib.hid (fun W hW => fit_any W n s t (by omega) (by omega) (TabW.below (w' := W) hT hW))
  rw [hq] at HF
  unfold QV at HF
  clear hT hs ht hq
  have hB : Below w.heap.size w (w.alloc (.cells #[.bool n, .string s, .string t] 27)) := (Below.refl w.heap.size w).alloc (Nat.le_refl _) _
  have k0 := R3.new w n s t
  have he := qs_empty q
  have hn := qn_iff q
  obtain ⟨b, hb⟩ : ∃ x, x = qn q := ⟨_, rfl⟩
  obtain ⟨a, ha⟩ : ∃ x, x = qs q := ⟨_, rfl⟩
  obtain ⟨d, hd⟩ : ∃ x, x = qt q := ⟨_, rfl⟩
  rw [← ha] at he
  rw [← hb] at hn
  rw [← hb, ← ha, ← hd] at HF
  clear hb ha hd
  by_cases h0 : q = 0
  · rw [decide_eq_true h0] at he
    have HP := Lib.hid (show (0 : Int) = signQ q by unfold signQ; rw [if_pos h0])
    clear h0 hn
    go_enter Tryd.func35, Tryd.ntmps35
    go_wp2_with fail
    generalize w.alloc _ = w1 at k0 hB ⊢
    refine (HF.out _ hB).mono ?_
    rintro e w2 ⟨rfl, hb2⟩
    replace k0 := k0.below hb2 k0.lt
    obtain ⟨_, _, _, g0, g1, g2⟩ := k0.facts
    have hfin := hB.trans (hb2.mono hB.size)
    clear hb2 k0 HF hB
    go_wp2
    go_ret
    exact ⟨congrArg (fun x => Ending.returned (.int .i64 x)) HP.out, ((hfin.setCell (by simp) _).setCell (by simp) _).setCell (by simp) _⟩
  · rw [decide_eq_false h0] at he
    cases b
    · have HP := Lib.hid (show (1 : Int) = signQ q by unfold signQ; rw [if_neg h0, if_neg (fun h => by cases hn.mpr h)])
      clear h0 hn
      go_enter Tryd.func35, Tryd.ntmps35
      go_wp2_with fail
      generalize w.alloc _ = w1 at k0 hB ⊢
      refine (HF.out _ hB).mono ?_
      rintro e w2 ⟨rfl, hb2⟩
      replace k0 := k0.below hb2 k0.lt
      obtain ⟨_, _, _, g0, g1, g2⟩ := k0.facts
      have hfin := hB.trans (hb2.mono hB.size)
      clear hb2 k0 HF hB
      go_wp2
      go_ret
      exact ⟨congrArg (fun x => Ending.returned (.int .i64 x)) HP.out, ((hfin.setCell (by simp) _).setCell (by simp) _).setCell (by simp) _⟩
    · have HP := Lib.hid (show (-1 : Int) = signQ q by unfold signQ; rw [if_neg h0, if_pos (hn.mp rfl)])
      clear h0 hn
      go_enter Tryd.func35, Tryd.ntmps35
      go_wp2_with fail
      generalize w.alloc _ = w1 at k0 hB ⊢
      refine (HF.out _ hB).mono ?_
      rintro e w2 ⟨rfl, hb2⟩
      replace k0 := k0.below hb2 k0.lt
      obtain ⟨_, _, _, g0, g1, g2⟩ := k0.facts
      have hfin := hB.trans (hb2.mono hB.size)
      clear hb2 k0 HF hB
      go_wp2
      go_ret
      exact ⟨congrArg (fun x => Ending.returned (.int .i64 x)) HP.out, ((hfin.setCell (by simp) _).setCell (by simp) _).setCell (by simp) _⟩
end Go.Proofs.YthmgcbpmfipfiaaDoor
