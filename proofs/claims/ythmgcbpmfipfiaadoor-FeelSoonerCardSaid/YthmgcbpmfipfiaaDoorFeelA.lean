/- gantkeep5.half, feel.Check. Conditions: those typed. -/
import Derived.Test.YthmgcbpmfipfiaaDoorRatH
import Derived.Test.YthmgcbpmfipfiaaDoorRatI
import Derived.Test.YthmgcbpmfipfiaaDoorMakeRat
namespace Go.Proofs.YthmgcbpmfipfiaaDoor
open Go.RowKit Go.Gy
set_option linter.unusedVariables false
theorem divV_ne {a b : Rat} (h : b ≠ 0) : divV a b = QV (a / b) := if_neg h
theorem divE_ne {b : Rat} (h : b ≠ 0) : divE b = 0 := if_neg h
def halfQ : Rat := 1 / 2
set_option maxRecDepth 100000 in
set_option maxHeartbeats 4000000 in
theorem half_any (w : World) (hT : TabW w) : Calls Tryd.prog 20 #[] w fun e w' => e = .returned (QV halfQ) ∧ Below w.heap.size w w' := by
  have HM := Lib.hid (fun W hW => makeq_any W 1 2 (by decide) (by decide) (TabW.below (w' := W) hT hW))
  have h2 : ((2 : Int) : Rat) ≠ 0 := by decide
  have h1 : ((1 : Int) : Rat) / ((2 : Int) : Rat) = halfQ := rfl
  rw [divV_ne h2, divE_ne h2, h1] at HM
  unfold QV at HM
  have HV := Lib.hid (show Value.agg #[.bool (qn halfQ), .string (qs halfQ), .string (qt halfQ)] = QV halfQ from rfl)
  obtain ⟨b, hb1⟩ : ∃ z, z = qn halfQ := ⟨_, rfl⟩
  obtain ⟨a, ha1⟩ : ∃ z, z = qs halfQ := ⟨_, rfl⟩
  obtain ⟨d, hd1⟩ : ∃ z, z = qt halfQ := ⟨_, rfl⟩
  rw [← hb1, ← ha1, ← hd1] at HM HV
  have hB : Below w.heap.size w (w.alloc (.cells #[.bool false, .string { data := #[] }, .string { data := #[] }] 27)) := (Below.refl w.heap.size w).alloc (Nat.le_refl _) _
  have kr : R3 (w.alloc (.cells #[.bool false, .string { data := #[] }, .string { data := #[] }] 27)) w.heap.size false { data := #[] } { data := #[] } := R3.new w _ _ _
  clear h1 h2 hb1 ha1 hd1 hT
  go_enter Tryd.func20, Tryd.ntmps20
  go_wp2_with fail
  generalize w.alloc _ = w1 at kr hB ⊢
  refine (HM.out _ hB).mono ?_
  rintro e w2 ⟨rfl, hb⟩
  replace kr := kr.below hb kr.lt
  replace hB := hB.trans (hb.mono hB.size)
  have hz := kr.lt
  have hzn : ¬ w.heap.size = w2.heap.size := by omega
  obtain ⟨c0, c1, c2, f0, f1, f2⟩ := kr.facts
  have HZ := Lib.hid ((kr.put b a d).alloc (.cells #[.bool b, .string a, .string d] 27))
  have hsz := hB.size
  clear hb HM
  go_wp2
  refine bodyPost_ret (results_cell_row Tryd.results20 _ _ w.heap.size 27 _ (0, 0) _ rfl HZ.out Tryd.underlying27 rfl (by kernel_rfl)) rfl ?_
  exact ⟨congrArg Ending.returned HV.out, (((hB.setCell (by simp) _).setCell (by simp) _).setCell (by simp) _).alloc (by simp; omega) _⟩
theorem signQ_pos (q : Rat) : ¬ signQ q ≤ 0 ↔ 0 < q := by
  unfold signQ
  by_cases h0 : q = 0
  · rw [if_pos h0]; subst h0; exact ⟨fun h => absurd (by decide) h, fun h => by grind⟩
  · rw [if_neg h0]
    by_cases h1 : q < 0
    · rw [if_pos h1]; exact ⟨fun h => absurd (by decide) h, fun h => by grind⟩
    · rw [if_neg h1]; exact ⟨fun _ => by grind, fun _ => by decide⟩
/-- feel.Check's errno -/
def ruleE (l j : Rat) : Int := if 0 < l ∧ 0 < j then 0 else 1
set_option maxRecDepth 100000 in
set_option maxHeartbeats 4000000 in
theorem check_any (w : World) (n1 : Bool) (s1 t1 : ByteArray) (n2 : Bool) (s2 t2 : ByteArray) (q1 q2 : Rat) (hq1 : fitQ n1 s1 t1 = q1) (hq2 : fitQ n2 s2 t2 = q2) (hs1 : s1.size ≤ 1099511627776) (ht1 : t1.size ≤ 1099511627776) (hs2 : s2.size ≤ 1099511627776) (ht2 : t2.size ≤ 1099511627776) (hT : TabW w) :
    Calls Tryd.prog 36 #[.agg #[.bool n1, .string s1, .string t1, .bool n2, .string s2, .string t2]] w fun e w' => e = .returned (.int .i64 (ruleE q1 q2)) ∧ Below w.heap.size w w' := by
  have HTW := Lib.hid (fun W hW => TabW.below (w' := W) hT hW)
  have S1 := Lib.hid (fun W hW => signq_any W n1 s1 t1 q1 hq1 (by omega) (by omega) (HTW.out W hW))
  have S2 := Lib.hid (fun W hW => signq_any W n2 s2 t2 q2 hq2 (by omega) (by omega) (HTW.out W hW))
  have p1 := signQ_pos q1
  have p2 := signQ_pos q2
  obtain ⟨g1, hg1⟩ : ∃ g, g = signQ q1 := ⟨_, rfl⟩
  obtain ⟨g2, hg2⟩ : ∃ g, g = signQ q2 := ⟨_, rfl⟩
  rw [← hg1] at S1 p1
  rw [← hg2] at S2 p2
  have hB : Below w.heap.size w (w.alloc (.cells #[.bool n1, .string s1, .string t1, .bool n2, .string s2, .string t2] 33)) := (Below.refl w.heap.size w).alloc (Nat.le_refl _) _
  have kb : Blk (w.alloc (.cells #[.bool n1, .string s1, .string t1, .bool n2, .string s2, .string t2] 33)) w.heap.size 33 #[.bool n1, .string s1, .string t1, .bool n2, .string s2, .string t2] := Blk.new w _ _
  by_cases h1 : g1 ≤ 0
  · have HP := Lib.hid (show (1 : Int) = ruleE q1 q2 from (if_neg (fun h => p1.mpr h.1 h1)).symm)
    clear hg1 hg2 p1 p2 hq1 hq2 hs1 ht1 hs2 ht2 hT
    go_enter Tryd.func36, Tryd.ntmps36
    go_wp2_with fail
    generalize w.alloc _ = w1 at kb hB ⊢
    refine (S1.out _ hB).mono ?_
    rintro e w2 ⟨rfl, hb⟩
    replace hB := hB.trans (hb.mono hB.size)
    go_wp2
    go_ret
    exact ⟨congrArg (fun x => Ending.returned (.int .i64 x)) HP.out, hB⟩
  · by_cases h2 : g2 ≤ 0
    · have HP := Lib.hid (show (1 : Int) = ruleE q1 q2 from (if_neg (fun h => p2.mpr h.2 h2)).symm)
      clear hg1 hg2 p1 p2 hq1 hq2 hs1 ht1 hs2 ht2 hT
      go_enter Tryd.func36, Tryd.ntmps36
      go_wp2_with fail
      generalize w.alloc _ = w1 at kb hB ⊢
      refine (S1.out _ hB).mono ?_
      rintro e w2 ⟨rfl, hb⟩
      replace kb := kb.below hb kb.lt
      replace hB := hB.trans (hb.mono hB.size)
      have c3 := kb.cell 3 _ rfl
      have c4 := kb.cell 4 _ rfl
      have c5 := kb.cell 5 _ rfl
      clear hb
      go_wp2_with fail
      refine (S2.out _ hB).mono ?_
      rintro e w3 ⟨rfl, hb⟩
      replace hB := hB.trans (hb.mono hB.size)
      go_wp2
      go_ret
      exact ⟨congrArg (fun x => Ending.returned (.int .i64 x)) HP.out, hB⟩
    · have HP := Lib.hid (show (0 : Int) = ruleE q1 q2 from (if_pos ⟨p1.mp h1, p2.mp h2⟩).symm)
      clear hg1 hg2 p1 p2 hq1 hq2 hs1 ht1 hs2 ht2 hT
      go_enter Tryd.func36, Tryd.ntmps36
      go_wp2_with fail
      generalize w.alloc _ = w1 at kb hB ⊢
      refine (S1.out _ hB).mono ?_
      rintro e w2 ⟨rfl, hb⟩
      replace kb := kb.below hb kb.lt
      replace hB := hB.trans (hb.mono hB.size)
      have c3 := kb.cell 3 _ rfl
      have c4 := kb.cell 4 _ rfl
      have c5 := kb.cell 5 _ rfl
      clear hb
      go_wp2_with fail
      refine (S2.out _ hB).mono ?_
      rintro e w3 ⟨rfl, hb⟩
      replace hB := hB.trans (hb.mono hB.size)
      go_wp2
      go_ret
      exact ⟨congrArg (fun x => Ending.returned (.int .i64 x)) HP.out, hB⟩
end Go.Proofs.YthmgcbpmfipfiaaDoor
