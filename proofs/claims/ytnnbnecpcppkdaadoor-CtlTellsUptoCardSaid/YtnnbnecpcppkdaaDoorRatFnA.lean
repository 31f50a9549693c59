/- rat.Good, rat.zero, rat.fit. rat.made, rat.signed, rat.Of. rat.Mul. rat.Div. Conditions: those typed. -/
import Derived.Test.YtnnbnecpcppkdaaDoorNatP
import Derived.Test.YtnnbnecpcppkdaaDoorGcdFn
import Derived.Deep.RegionHeld3
namespace Go.Proofs.YtnnbnecpcppkdaaDoor
open Go.RowKit Go.Gy
set_option linter.unusedVariables false
/-- the table's fact, and where the table lies -/
def TabW (w : World) : Prop := Tab w ∧ 1 < w.heap.size
theorem TabW.below {w w' : World} (h : TabW w) (hb : Below w.heap.size w w') : TabW w' := ⟨h.1.below hb h.2, Nat.lt_of_lt_of_le h.2 hb.size⟩
theorem str_beq (a b : ByteArray) : (a == b) = true ↔ a = b := by
  show (a.data == b.data) = true ↔ a = b
  rw [beq_iff_eq]
  exact ⟨fun h => ByteArray.ext h, fun h => h ▸ rfl⟩
theorem one_iff (a : ByteArray) : a.toList = [1] ↔ a = natS 1 := by
  rw [natS_one, ByteArray.toList_eq]
  constructor
  · intro h; exact ByteArray.ext (Array.toList_inj.mp h)
  · intro h; rw [h]
theorem canon_iff (s : ByteArray) : natS (sval s) = s ↔ ∀ h : 0 < s.size, s[0].toNat ≠ 0 := by
  constructor
  · intro h hp hz
    have h1 := str_cons s hp
    have h2 := natL_head (sval s) s[0] (s.extract 1 s.size).data.toList (by rw [← natS_list, h]; exact h1)
    exact h2 (UInt8.toNat_inj.mp hz)
  · intro h
    exact (natS_of fun c r e => by
      by_cases hp : 0 < s.size
      · rw [str_cons s hp] at e
        injection e with e1 e2
        intro hc
        rw [hc] at e1
        exact h hp (by rw [e1]; rfl)
      · have : s.data.toList.length = 0 := by simpa using hp
        rw [e] at this
        cases this).symm
theorem empty_iff (s : ByteArray) : s.toList.isEmpty = true ↔ ¬ 0 < s.size := by
  rw [ByteArray.toList_eq, List.isEmpty_iff]
  have : s.data.toList.length = s.size := by simp
  constructor
  · intro h; rw [h] at this; simp at this; omega
  · intro h; exact List.length_eq_zero_iff.mp (by omega)
theorem sval_pos {s : ByteArray} (h : 0 < s.size) (hc : natS (sval s) = s) : sval s ≠ 0 := by
  intro h0
  rw [h0, natS_zero] at hc
  rw [← hc] at h
  exact absurd h (by decide)
theorem sval_empty {s : ByteArray} (h : ¬ 0 < s.size) : sval s = 0 := by
  have : s = { data := #[] } := by
    apply ByteArray.ext
    apply Array.eq_empty_of_size_eq_zero
    show s.size = 0
    omega
  rw [this]
  rfl
set_option maxRecDepth 100000 in
set_option maxHeartbeats 4000000 in
theorem good_any (w : World) (n : Bool) (s t : ByteArray) (hs : s.size ≤ 8796093022208) (ht : t.size ≤ 8796093022208) (hT : TabW w) :
    Calls Tryd.prog 101 #[.agg #[.bool n, .string s, .string t]] w fun e w' => e = .returned (.bool (decide (GoodR n s t))) ∧ Below w.heap.size w w' := by
  by_cases h1 : 0 < t.size
  · have e1 : t.toList.isEmpty = false := by rw [Bool.eq_false_iff]; intro h; exact (empty_iff t).mp h h1
    by_cases h2 : t[0].toNat = 0
    · have b2 : ((t[0].toNat : Int) == 0) = true := by rw [h2]; rfl
      have HP := Lib.hid (show decide (GoodR n s t) = false from decide_eq_false fun h => (canon_iff t).mp h.2.1 h1 h2)
      rw [HP.out]
      clear h2
      go_enter Tryd.func101, Tryd.ntmps101
      go_wp2
      go_ret
      exact ⟨rfl, (Below.refl w.heap.size w).alloc (Nat.le_refl _) _⟩
    · have b2 : ((t[0].toNat : Int) == 0) = false := by simpa using h2
      have Ht := Lib.hid (show natS (sval t) = t from (canon_iff t).mpr fun _ => h2)
      have Ht0 := Lib.hid (sval_pos h1 Ht.out)
      clear h2
      by_cases h3 : 0 < s.size
      · have e3 : s.toList.isEmpty = false := by rw [Bool.eq_false_iff]; intro h; exact (empty_iff s).mp h h3
        by_cases h4 : s[0].toNat = 0
        · have b4 : ((s[0].toNat : Int) == 0) = true := by rw [h4]; rfl
          have HP := Lib.hid (show decide (GoodR n s t) = false from decide_eq_false fun h => (canon_iff s).mp h.1 h3 h4)
          rw [HP.out]
          clear h4
          go_enter Tryd.func101, Tryd.ntmps101
          go_wp2
          go_ret
          exact ⟨rfl, (Below.refl w.heap.size w).alloc (Nat.le_refl _) _⟩
        · have b4 : ((s[0].toNat : Int) == 0) = false := by simpa using h4
          have Hs := Lib.hid (show natS (sval s) = s from (canon_iff s).mpr fun _ => h4)
          have Hs0 := Lib.hid (sval_pos h3 Hs.out)
          clear h4
          by_cases h5 : ¬ t.toList = [1]
          · have HG := Lib.hid (fun W hW => gcd_any W s t hs ht (TabW.below hT hW).1 (TabW.below hT hW).2)
            have HP := Lib.hid (show (t.toList == [1] || (natS (Nat.gcd (sval s) (sval t))).toList == [1]) = decide (GoodR n s t) by
              rw [show (t.toList == [1]) = false from by rw [beq_eq_false_iff_ne]; exact h5, Bool.false_or, Bool.eq_iff_iff, beq_iff_eq, decide_eq_true_iff, one_iff, natS_inj']
              exact ⟨fun h => ⟨Hs.out, Ht.out, Ht0.out, fun h0 => absurd h0 Hs0.out, h⟩, fun h => h.2.2.2.2⟩)
            obtain ⟨G, hG⟩ : ∃ G, G = natS (Nat.gcd (sval s) (sval t)) := ⟨_, rfl⟩
            rw [← hG] at HG HP
            clear hG hT
            go_enter Tryd.func101, Tryd.ntmps101
            go_wp2_with fail
            refine (HG.out _ ((Below.refl w.heap.size w).alloc (Nat.le_refl _) _)).mono ?_
            rintro e w' ⟨rfl, hb⟩
            go_wp2
            go_ret
            exact ⟨congrArg (fun b => Ending.returned (.bool b)) HP.out, ((Below.refl w.heap.size w).alloc (Nat.le_refl _) _).trans (hb.mono ((Below.refl w.heap.size w).alloc (Nat.le_refl _) _).size)⟩
          · replace h5 : t.toList = [1] := Decidable.not_not.mp h5
            have HP := Lib.hid (show decide (GoodR n s t) = true from decide_eq_true ⟨Hs.out, Ht.out, Ht0.out, fun h0 => absurd h0 Hs0.out, by rw [one_iff] at h5; rw [h5, sval_natS, Nat.gcd_one_right]⟩)
            rw [HP.out]
            go_enter Tryd.func101, Tryd.ntmps101
            go_wp2
            go_ret
            exact ⟨rfl, (Below.refl w.heap.size w).alloc (Nat.le_refl _) _⟩
      · have e3 : s.toList.isEmpty = true := (empty_iff s).mpr h3
        have Hs0 := Lib.hid (sval_empty h3)
        have Hs := Lib.hid (show natS (sval s) = s by rw [canon_iff]; intro h; exact absurd h h3)
        clear h3
        cases n
        · by_cases h5 : ¬ t.toList = [1]
          · have HP := Lib.hid (show decide (GoodR false s t) = false from decide_eq_false fun h => by
              have h7 := h.2.2.2.2
              rw [Hs0.out, Nat.gcd_zero_left] at h7
              have h8 := h.2.1
              rw [h7, natS_one] at h8
              exact h5 ((one_iff t).mpr (by rw [natS_one]; exact h8.symm)))
            rw [HP.out]
            go_enter Tryd.func101, Tryd.ntmps101
            go_wp2
            go_ret
            exact ⟨rfl, (Below.refl w.heap.size w).alloc (Nat.le_refl _) _⟩
          · replace h5 : t.toList = [1] := Decidable.not_not.mp h5
            have HP := Lib.hid (show decide (GoodR false s t) = true from decide_eq_true ⟨Hs.out, Ht.out, Ht0.out, fun _ => rfl, by rw [one_iff] at h5; rw [h5, sval_natS, Nat.gcd_one_right]⟩)
            rw [HP.out]
            go_enter Tryd.func101, Tryd.ntmps101
            go_wp2
            go_ret
            exact ⟨rfl, (Below.refl w.heap.size w).alloc (Nat.le_refl _) _⟩
        · have HP := Lib.hid (show decide (GoodR true s t) = false from decide_eq_false fun h => by cases h.2.2.2.1 Hs0.out)
          rw [HP.out]
          go_enter Tryd.func101, Tryd.ntmps101
          go_wp2
          go_ret
          exact ⟨rfl, (Below.refl w.heap.size w).alloc (Nat.le_refl _) _⟩
  · have e1 : t.toList.isEmpty = true := (empty_iff t).mpr h1
    have HP := Lib.hid (show decide (GoodR n s t) = false from decide_eq_false fun h => h.2.2.1 (sval_empty h1))
    rw [HP.out]
    clear h1
    go_enter Tryd.func101, Tryd.ntmps101
    go_wp2
    go_ret
    exact ⟨rfl, (Below.refl w.heap.size w).alloc (Nat.le_refl _) _⟩
set_option maxRecDepth 100000 in
set_option maxHeartbeats 4000000 in
theorem zero_any (w : World) : Calls Tryd.prog 102 #[] w fun e w' => e = .returned (.agg #[.bool false, .string { data := #[] }, .string { data := #[1] }]) ∧ Below w.heap.size w w' := by
  go_enter Tryd.func102, Tryd.ntmps102
  go_wp2
  refine bodyPost_ret (v := .agg #[.bool false, .string { data := #[] }, .string { data := #[1] }]) (by simp [results, Tryd.results102, go_sem]) rfl ?_
  exact ⟨rfl, (Below.refl w.heap.size w).alloc (Nat.le_refl _) _⟩
/-- a rational number's value -/
def QV (q : Rat) : Value := .agg #[.bool (qn q), .string (qs q), .string (qt q)]
theorem QV_zero : QV 0 = .agg #[.bool false, .string { data := #[] }, .string { data := #[1] }] := by
  unfold QV
  rw [parts_zero.1, parts_zero.2.1, parts_zero.2.2, natS_zero, natS_one]
theorem QV_good {n : Bool} {s t : ByteArray} (h : GoodR n s t) : QV (fitQ n s t) = .agg #[.bool n, .string s, .string t] := by
  unfold QV
  rw [(good_parts h).1, (good_parts h).2.1, (good_parts h).2.2]
def R3 (w : World) (g : Nat) (n : Bool) (s t : ByteArray) : Prop := Blk w g 25 #[.bool n, .string s, .string t]
theorem R3.blk {w : World} {g : Nat} {n : Bool} {s t : ByteArray} (h : R3 w g n s t) : Blk w g 25 #[.bool n, .string s, .string t] := h
theorem R3.lt {w : World} {g : Nat} {n : Bool} {s t : ByteArray} (h : R3 w g n s t) : g < w.heap.size := h.blk.lt
theorem R3.alloc {w : World} {g : Nat} {n : Bool} {s t : ByteArray} (h : R3 w g n s t) (o : Obj) : R3 (w.alloc o) g n s t := h.blk.alloc o
theorem R3.drew {w : World} {g : Nat} {n : Bool} {s t : ByteArray} (h : R3 w g n s t) : R3 w.drew g n s t := h
theorem R3.drewN {w : World} {g : Nat} {n : Bool} {s t : ByteArray} (h : R3 w g n s t) (k : Nat) : R3 (w.drewN k) g n s t := h
theorem R3.below {w w' : World} {g B : Nat} {n : Bool} {s t : ByteArray} (h : R3 w g n s t) (hb : Below B w w') (hg : g < B) : R3 w' g n s t := h.blk.below hb hg
theorem R3.far {w : World} {g : Nat} {n : Bool} {s t : ByteArray} (h : R3 w g n s t) {p : Addr} (hp : g ≠ p.block) (u : Value) : R3 (w.setCell p u) g n s t := h.blk.far hp u
theorem R3.facts {w : World} {g : Nat} {n : Bool} {s t : ByteArray} (h : R3 w g n s t) : w.cell? ⟨g, 0, none⟩ = some (.bool n) ∧ w.cell? ⟨g, 1, none⟩ = some (.string s) ∧ w.cell? ⟨g, 2, none⟩ = some (.string t) ∧ w.frozen? ⟨g, 0, none⟩ = false ∧ w.frozen? ⟨g, 1, none⟩ = false ∧ w.frozen? ⟨g, 2, none⟩ = false :=
  ⟨h.blk.cell 0 _ rfl, h.blk.cell 1 _ rfl, h.blk.cell 2 _ rfl, h.blk.free 0, h.blk.free 1, h.blk.free 2⟩
theorem R3.put {w : World} {g : Nat} {n : Bool} {s t : ByteArray} (h : R3 w g n s t) (n' : Bool) (s' t' : ByteArray) : R3 (((w.setCell ⟨g, 0, none⟩ (.bool n')).setCell ⟨g, 1, none⟩ (.string s')).setCell ⟨g, 2, none⟩ (.string t')) g n' s' t' := ((h.blk.set 0 (.bool n')).set 1 (.string s')).set 2 (.string t')
theorem R3.far3 {w : World} {g b : Nat} {n : Bool} {s t : ByteArray} (h : R3 w g n s t) (hb : g ≠ b) (u0 u1 u2 : Value) : R3 (((w.setCell ⟨b, 0, none⟩ u0).setCell ⟨b, 1, none⟩ u1).setCell ⟨b, 2, none⟩ u2) g n s t := ((h.blk.far (p := ⟨b, 0, none⟩) hb u0).far (p := ⟨b, 1, none⟩) hb u1).far (p := ⟨b, 2, none⟩) hb u2
theorem R3.new (w : World) (n : Bool) (s t : ByteArray) : R3 (w.alloc (.cells #[.bool n, .string s, .string t] 25)) w.heap.size n s t := Blk.new w _ _
/-- two blocks: a parameter's copy and the result -/
theorem R3.two (w : World) (n : Bool) (s t : ByteArray) (n2 : Bool) (s2 t2 : ByteArray) :
    R3 ((w.alloc (.cells #[.bool n, .string s, .string t] 25)).alloc (.cells #[.bool n2, .string s2, .string t2] 25)) w.heap.size n s t ∧
    R3 ((w.alloc (.cells #[.bool n, .string s, .string t] 25)).alloc (.cells #[.bool n2, .string s2, .string t2] 25)) (w.heap.size + 1) n2 s2 t2 ∧
    Below w.heap.size w ((w.alloc (.cells #[.bool n, .string s, .string t] 25)).alloc (.cells #[.bool n2, .string s2, .string t2] 25)) ∧
    ((w.alloc (.cells #[.bool n, .string s, .string t] 25)).alloc (.cells #[.bool n2, .string s2, .string t2] 25)).heap.size = w.heap.size + 2 :=
  ⟨(R3.new w n s t).alloc _, by simpa using R3.new (w.alloc (.cells #[.bool n, .string s, .string t] 25)) n2 s2 t2, ((Below.refl w.heap.size w).alloc (Nat.le_refl _) _).alloc (by simp) _, by simp⟩
set_option maxRecDepth 100000 in
set_option maxHeartbeats 4000000 in
theorem fit_any (w : World) (n : Bool) (s t : ByteArray) (hs : s.size ≤ 8796093022208) (ht : t.size ≤ 8796093022208) (hT : TabW w) :
    Calls Tryd.prog 67 #[.agg #[.bool n, .string s, .string t]] w fun e w' => e = .returned (QV (fitQ n s t)) ∧ Below w.heap.size w w' := by
  have HG := Lib.hid (fun W hW => good_any W n s t hs ht (TabW.below hT hW))
  obtain ⟨k0, k1, hb, hz⟩ := R3.two w n s t false { data := #[] } { data := #[] }
  by_cases h : GoodR n s t
  · rw [QV_good h]
    rw [decide_eq_true h] at HG
    clear h hT
    go_enter Tryd.func67, Tryd.ntmps67
    go_wp2_with fail
    generalize (w.alloc _).alloc _ = w1 at k0 k1 hb hz ⊢
    refine (HG.out _ hb).mono ?_
    rintro e w2 ⟨rfl, hb2⟩
    replace k0 := k0.below hb2 (by omega)
    replace k1 := k1.below hb2 (by omega)
    obtain ⟨a0, a1, a2, _, _, _⟩ := k0.facts
    obtain ⟨_, _, _, f0, f1, f2⟩ := k1.facts
    have Hb := Lib.hid (hb.trans (hb2.mono (by omega)))
    have HZ := Lib.hid (k1.put n s t)
    clear hb hb2 HG k0 k1
    go_wp2
    refine bodyPost_ret (results_cell_row Tryd.results67 _ _ (w.heap.size + 1) 25 _ (0, 0) _ rfl HZ.out Tryd.underlying25 rfl (by kernel_rfl)) rfl ?_
    exact ⟨rfl, (((Hb.out).setCell (by simp) _).setCell (by simp) _).setCell (by simp) _⟩
  · rw [fit_bad h, QV_zero]
    rw [decide_eq_false h] at HG
    have HZ0 := Lib.hid zero_any
    clear h hT
    go_enter Tryd.func67, Tryd.ntmps67
    go_wp2_with fail
    generalize (w.alloc _).alloc _ = w1 at k0 k1 hb hz ⊢
    refine (HG.out _ hb).mono ?_
    rintro e w2 ⟨rfl, hb2⟩
    replace k1 := k1.below hb2 (by omega)
    go_wp2_with fail
    refine (HZ0.out _).mono ?_
    rintro e w3 ⟨rfl, hb3⟩
    replace k1 := k1.below hb3 k1.lt
    obtain ⟨_, _, _, f0, f1, f2⟩ := k1.facts
    have Hb := Lib.hid ((hb.trans (hb2.mono (by omega))).trans (hb3.mono (by have := hb2.size; omega)))
    have HZ := Lib.hid (k1.put false { data := #[] } { data := #[1] })
    clear hb hb2 hb3 HG k0 k1 HZ0
    go_wp2
    refine bodyPost_ret (results_cell_row Tryd.results67 _ _ (w.heap.size + 1) 25 _ (0, 0) _ rfl HZ.out Tryd.underlying25 rfl (by kernel_rfl)) rfl ?_
    exact ⟨rfl, (((Hb.out).setCell (by simp) _).setCell (by simp) _).setCell (by simp) _⟩
end Go.Proofs.YtnnbnecpcppkdaaDoor
namespace Go.Proofs.YtnnbnecpcppkdaaDoor
open Go.RowKit Go.Gy
set_option linter.unusedVariables false
theorem QV_mk {n : Bool} {a b : Nat} (hb : b ≠ 0) (ha : a ≠ 0) : QV (mkRat (sgn n a) b) = .agg #[.bool n, .string (natS (a / Nat.gcd a b)), .string (natS (b / Nat.gcd a b))] := by
  unfold QV
  obtain ⟨h1, h2, h3⟩ := mk_parts (n := n) hb (fun h => absurd h ha)
  rw [h1, h2, h3]
/-- three blocks: two parameters' copies and the result -/
theorem R3.three (w : World) (n : Bool) (s t : ByteArray) (n2 : Bool) (s2 t2 : ByteArray) :
    R3 (((w.alloc (.cells #[.bool n, .string s, .string t] 25)).alloc (.cells #[.bool n2, .string s2, .string t2] 25)).alloc (.cells #[.bool false, .string { data := #[] }, .string { data := #[] }] 25)) w.heap.size n s t ∧
    R3 (((w.alloc (.cells #[.bool n, .string s, .string t] 25)).alloc (.cells #[.bool n2, .string s2, .string t2] 25)).alloc (.cells #[.bool false, .string { data := #[] }, .string { data := #[] }] 25)) (w.heap.size + 1) n2 s2 t2 ∧
    R3 (((w.alloc (.cells #[.bool n, .string s, .string t] 25)).alloc (.cells #[.bool n2, .string s2, .string t2] 25)).alloc (.cells #[.bool false, .string { data := #[] }, .string { data := #[] }] 25)) (w.heap.size + 2) false { data := #[] } { data := #[] } ∧
    Below w.heap.size w (((w.alloc (.cells #[.bool n, .string s, .string t] 25)).alloc (.cells #[.bool n2, .string s2, .string t2] 25)).alloc (.cells #[.bool false, .string { data := #[] }, .string { data := #[] }] 25)) := by
  obtain ⟨h1, h2, h3, h4⟩ := R3.two w n s t n2 s2 t2
  refine ⟨h1.alloc _, h2.alloc _, ?_, h3.alloc (by rw [h4]; omega) _⟩
  have := R3.new ((w.alloc (.cells #[.bool n, .string s, .string t] 25)).alloc (.cells #[.bool n2, .string s2, .string t2] 25)) false { data := #[] } { data := #[] }
  rw [h4] at this
  exact this
def FitR (w : World) (p q r : Nat) (q1 q2 : Rat) (wx : World) : Prop := R3 wx p (qn q1) (qs q1) (qt q1) ∧ R3 wx q (qn q2) (qs q2) (qt q2) ∧ R3 wx r false { data := #[] } { data := #[] } ∧ Below w.heap.size w wx
theorem natS_ne {a b : Nat} : natS a = natS b ↔ a = b := natS_inj'
set_option maxRecDepth 100000 in
set_option maxHeartbeats 4000000 in
theorem made_any (w : World) (n : Bool) (a b : Nat) (hb : b ≠ 0) (hs : (natS a).size ≤ 8796093022208) (ht : (natS b).size ≤ 8796093022208) (hT : TabW w) :
    Calls Tryd.prog 79 #[.bool n, .string (natS a), .string (natS b)] w fun e w' => e = .returned (QV (mkRat (sgn n a) b)) ∧ Below w.heap.size w w' := by
  have hbw : Below w.heap.size w (w.alloc (.cells #[.bool false, .string { data := #[] }, .string { data := #[] }] 25)) := (Below.refl w.heap.size w).alloc (Nat.le_refl _) _
  have k1 : R3 (w.alloc (.cells #[.bool false, .string { data := #[] }, .string { data := #[] }] 25)) w.heap.size false { data := #[] } { data := #[] } := R3.new w _ _ _
  have hz : (w.alloc (.cells #[.bool false, .string { data := #[] }, .string { data := #[] }] 25)).heap.size = w.heap.size + 1 := by simp
  have HTW := Lib.hid (fun W hW => TabW.below (w' := W) hT hW)
  clear hT
  have he := natS_empty a
  by_cases ha : a = 0
  · rw [decide_eq_true ha] at he
    have HZ0 := Lib.hid zero_any
    rw [ha, sgn_zero, Rat.zero_mkRat, QV_zero]
    rw [ha] at he
    obtain ⟨sa, hsa⟩ : ∃ s, s = natS 0 := ⟨_, rfl⟩
    obtain ⟨sb, hsb⟩ : ∃ s, s = natS b := ⟨_, rfl⟩
    rw [← hsa] at he ⊢
    rw [← hsb]
    clear hsa hsb hs ht ha
    go_enter Tryd.func79, Tryd.ntmps79
    go_wp2_with fail
    generalize w.alloc _ = w1 at k1 hbw hz ⊢
    refine (HZ0.out _).mono ?_
    rintro e w2 ⟨rfl, hb2⟩
    replace k1 := k1.below hb2 k1.lt
    obtain ⟨_, _, _, f0, f1, f2⟩ := k1.facts
    have Hb := Lib.hid (hbw.trans (hb2.mono (by omega)))
    have HZ := Lib.hid (k1.put false { data := #[] } { data := #[1] })
    clear hbw hb2 k1 HZ0
    go_wp2
    refine bodyPost_ret (results_cell_row Tryd.results79 _ _ w.heap.size 25 _ (0, 0) _ rfl HZ.out Tryd.underlying25 rfl (by kernel_rfl)) rfl ?_
    exact ⟨rfl, (((Hb.out).setCell (by simp) _).setCell (by simp) _).setCell (by simp) _⟩
  · rw [decide_eq_false ha] at he
    rw [QV_mk hb ha]
    have hb1 := one_iff (natS b)
    rw [natS_ne] at hb1
    by_cases h1 : b = 1
    · have h2 : (natS b).toList = [1] := hb1.mpr h1
      have hn : (!((natS b).toList == [1])) = false := by rw [h2]; rfl
      have HP := Lib.hid (show Value.agg #[.bool n, .string (natS a), .string (natS b)] = .agg #[.bool n, .string (natS (a / Nat.gcd a b)), .string (natS (b / Nat.gcd a b))] by rw [h1, Nat.gcd_one_right, Nat.div_one, Nat.div_one])
      rw [← HP.out]
      obtain ⟨sa, hsa⟩ : ∃ s, s = natS a := ⟨_, rfl⟩
      obtain ⟨sb, hsb⟩ : ∃ s, s = natS b := ⟨_, rfl⟩
      rw [← hsa] at he ⊢
      rw [← hsb] at h2 hn ⊢
      clear hsa hsb hs ht ha HP hb1 h1
      clear k1 hbw hz
      go_enter Tryd.func79, Tryd.ntmps79
      go_wp2
      refine bodyPost_ret (v := .agg #[.bool n, .string sa, .string sb]) (by simp [results, Tryd.results79, go_sem]) rfl ?_
      exact ⟨rfl, (Below.refl w.heap.size w).alloc (Nat.le_refl _) _⟩
    · have h2 : ¬ (natS b).toList = [1] := fun h => h1 (hb1.mp h)
      have hn : (!((natS b).toList == [1])) = true := by rw [Bool.not_eq_true', beq_eq_false_iff_ne]; exact h2
      have HG := Lib.hid (fun W hW => gcd_any W (natS a) (natS b) hs ht (HTW.out W hW).1 (HTW.out W hW).2)
      simp only [sval_natS] at HG
      obtain ⟨g, hg⟩ : ∃ g, g = Nat.gcd a b := ⟨_, rfl⟩
      rw [← hg] at HG ⊢
      have hg1 := one_iff (natS g)
      rw [natS_ne] at hg1
      have hgp : g ≠ 0 := by rw [hg]; exact Nat.pos_iff_ne_zero.mp (Nat.gcd_pos_of_pos_right a (Nat.pos_of_ne_zero hb))
      by_cases h3 : g = 1
      · have h4 : (natS g).toList = [1] := hg1.mpr h3
        have hm : (!((natS g).toList == [1])) = false := by rw [h4]; rfl
        rw [show Value.agg #[.bool n, .string (natS (a / g)), .string (natS (b / g))] = .agg #[.bool n, .string (natS a), .string (natS b)] by rw [h3, Nat.div_one, Nat.div_one]]
        obtain ⟨sa, hsa⟩ : ∃ s, s = natS a := ⟨_, rfl⟩
        obtain ⟨sb, hsb⟩ : ∃ s, s = natS b := ⟨_, rfl⟩
        obtain ⟨sg, hsg⟩ : ∃ s, s = natS g := ⟨_, rfl⟩
        rw [← hsa] at he HG ⊢
        rw [← hsb] at h2 hn HG ⊢
        rw [← hsg] at h4 hm HG
        clear hsa hsb hsg hs ht ha hb1 h1 hg1 h3 hg
        go_enter Tryd.func79, Tryd.ntmps79
        go_wp2_with fail
        generalize w.alloc _ = w1 at k1 hbw hz ⊢
        refine (HG.out _ hbw).mono ?_
        rintro e w2 ⟨rfl, hb2⟩
        replace k1 := k1.below hb2 k1.lt
        obtain ⟨_, _, _, f0, f1, f2⟩ := k1.facts
        have Hb := Lib.hid (hbw.trans (hb2.mono (by omega)))
        have HZ := Lib.hid (k1.put n sa sb)
        clear hbw hb2 k1 HG
        go_wp2
        refine bodyPost_ret (results_cell_row Tryd.results79 _ _ w.heap.size 25 _ (0, 0) _ rfl HZ.out Tryd.underlying25 rfl (by kernel_rfl)) rfl ?_
        exact ⟨rfl, (((Hb.out).setCell (by simp) _).setCell (by simp) _).setCell (by simp) _⟩
      · have h4 : ¬ (natS g).toList = [1] := fun h => h3 (hg1.mp h)
        have hm : (!((natS g).toList == [1])) = true := by rw [Bool.not_eq_true', beq_eq_false_iff_ne]; exact h4
        have hgl : g ≤ b := by rw [hg]; exact Nat.gcd_le_right _ (Nat.pos_of_ne_zero hb)
        have hzg := natS_mono hgl
        have HD : ∀ x, (natS x).size ≤ 8796093022208 → Hid (∀ W, Calls Tryd.prog 116 #[.string (natS x), .string (natS g)] W fun e w' => e = .returned (.tuple #[.string (natS (x / g)), .string (natS (x % g)), .int .i64 0]) ∧ Below W.heap.size W w') := fun x hx => Lib.hid (fun W => by
          have h := div_any W (natS x) (natS g) hx (by omega)
          rw [sval_natS, sval_natS] at h
          refine h.mono fun e w' h => ?_
          obtain ⟨h1, h2⟩ := h
          unfold divF at h1
          rw [if_neg hgp] at h1
          exact ⟨h1, h2⟩)
        have D1 := HD a hs
        have D2 := HD b ht
        obtain ⟨sa, hsa⟩ : ∃ s, s = natS a := ⟨_, rfl⟩
        obtain ⟨sb, hsb⟩ : ∃ s, s = natS b := ⟨_, rfl⟩
        obtain ⟨sg, hsg⟩ : ∃ s, s = natS g := ⟨_, rfl⟩
        obtain ⟨qa, hqa⟩ : ∃ s, s = natS (a / g) := ⟨_, rfl⟩
        obtain ⟨qb, hqb⟩ : ∃ s, s = natS (b / g) := ⟨_, rfl⟩
        obtain ⟨ra, hra⟩ : ∃ s, s = natS (a % g) := ⟨_, rfl⟩
        obtain ⟨rb, hrb⟩ : ∃ s, s = natS (b % g) := ⟨_, rfl⟩
        rw [← hsa] at he HG D1
        rw [← hsb] at h2 hn HG D2
        rw [← hsg] at h4 hm HG D1 D2
        rw [← hqa] at D1 ⊢
        rw [← hqb] at D2 ⊢
        rw [← hra] at D1
        rw [← hrb] at D2
        rw [← hsa, ← hsb]
        clear hsa hsb hsg hs ht ha hb1 h1 hg1 h3 hg hqa hqb hra hrb HD hzg hgl hgp
        go_enter Tryd.func79, Tryd.ntmps79
        go_wp2_with fail
        generalize w.alloc _ = w1 at k1 hbw hz ⊢
        refine (HG.out _ hbw).mono ?_
        rintro e w2 ⟨rfl, hb2⟩
        replace k1 := k1.below hb2 k1.lt
        have Hb := Lib.hid (hbw.trans (hb2.mono (by omega)))
        clear hbw hb2 HG
        go_wp2_with fail
        refine (D1.out _).mono ?_
        rintro e w3 ⟨rfl, hb2⟩
        replace k1 := k1.below hb2 k1.lt
        replace Hb := Lib.hid (Hb.out.trans (hb2.mono Hb.out.size))
        clear hb2 D1
        go_wp2_with fail
        refine (D2.out _).mono ?_
        rintro e w4 ⟨rfl, hb2⟩
        replace k1 := k1.below hb2 k1.lt
        replace Hb := Lib.hid (Hb.out.trans (hb2.mono Hb.out.size))
        obtain ⟨_, _, _, f0, f1, f2⟩ := k1.facts
        have HZ := Lib.hid (k1.put n qa qb)
        clear hb2 k1 D2
        go_wp2
        refine bodyPost_ret (results_cell_row Tryd.results79 _ _ w.heap.size 25 _ (0, 0) _ rfl HZ.out Tryd.underlying25 rfl (by kernel_rfl)) rfl ?_
        exact ⟨rfl, (((Hb.out).setCell (by simp) _).setCell (by simp) _).setCell (by simp) _⟩
set_option maxRecDepth 100000 in
set_option maxHeartbeats 4000000 in
theorem signed_any (w : World) (n m : Bool) (a b : Nat) (hs : (natS a).size ≤ 8796093022208) (ht : (natS b).size ≤ 8796093022208) :
    Calls Tryd.prog 82 #[.bool n, .string (natS a), .bool m, .string (natS b)] w fun e w' => ∃ k r, e = .returned (.tuple #[.bool k, .string (natS r)]) ∧ sgn k r = sgn n a + sgn m b ∧ Below w.heap.size w w' := by
  have HA := Lib.hid (add_any w (natS a) (natS b) hs ht)
  have HS := Lib.hid (sub_any w (natS a) (natS b) hs ht)
  have HS2 := Lib.hid (fun w => sub_any w (natS b) (natS a) ht hs)
  simp only [sval_natS] at HA HS HS2
  by_cases h : (n == m) = true
  · have e1 : sgn n (a + b) = sgn n a + sgn m b := by
      rw [beq_iff_eq] at h
      rw [h]
      cases m <;> simp [sgn]
      omega
    have HE := Lib.hid e1
    obtain ⟨sa, hsa⟩ : ∃ s, s = natS a := ⟨_, rfl⟩
    obtain ⟨sb, hsb⟩ : ∃ s, s = natS b := ⟨_, rfl⟩
    rw [← hsa, ← hsb] at HA ⊢
    clear HS HS2 hsa hsb hs ht e1
    go_enter Tryd.func82, Tryd.ntmps82
    go_wp2_with fail
    refine HA.out.mono ?_
    rintro e w1 ⟨rfl, hb⟩
    go_wp2
    refine bodyPost_ret (results_tmp2 rfl _ _ _) rfl ?_
    exact ⟨n, a + b, rfl, HE.out, hb⟩
  · have hnm : m = !n := by cases n <;> cases m <;> simp_all
    replace h := Bool.eq_false_iff.mpr h
    clear HA
    by_cases hlt : a < b
    · have e1 : subF a b = (0, 1) := by unfold subF; rw [if_pos hlt]
      have e2 : subF b a = (b - a, 0) := by unfold subF; rw [if_neg (by omega)]
      rw [e1] at HS
      rw [e2] at HS2
      have HE := Lib.hid (show sgn m (b - a) = sgn n a + sgn m b by
        rw [hnm]
        cases n <;> simp [sgn] <;> omega)
      obtain ⟨sa, hsa⟩ : ∃ s, s = natS a := ⟨_, rfl⟩
      obtain ⟨sb, hsb⟩ : ∃ s, s = natS b := ⟨_, rfl⟩
      rw [← hsa, ← hsb] at HS HS2 ⊢
      clear hsa hsb hs ht e1 e2 hnm hlt
      go_enter Tryd.func82, Tryd.ntmps82
      go_wp2_with fail
      refine HS.out.mono ?_
      rintro e w1 ⟨rfl, hb⟩
      go_wp2_with fail
      refine (HS2.out _).mono ?_
      rintro e w2 ⟨rfl, hb2⟩
      go_wp2
      refine bodyPost_ret (results_tmp2 rfl _ _ _) rfl ?_
      exact ⟨m, b - a, rfl, HE.out, hb.trans (hb2.mono hb.size)⟩
    · have e1 : subF a b = (a - b, 0) := by unfold subF; rw [if_neg hlt]
      rw [e1] at HS
      have HE := Lib.hid (show sgn n (a - b) = sgn n a + sgn m b by
        rw [hnm]
        cases n <;> simp [sgn] <;> omega)
      obtain ⟨sa, hsa⟩ : ∃ s, s = natS a := ⟨_, rfl⟩
      obtain ⟨sb, hsb⟩ : ∃ s, s = natS b := ⟨_, rfl⟩
      rw [← hsa, ← hsb] at HS ⊢
      clear hsa hsb hs ht e1 hnm hlt HS2
      go_enter Tryd.func82, Tryd.ntmps82
      go_wp2_with fail
      refine HS.out.mono ?_
      rintro e w1 ⟨rfl, hb⟩
      go_wp2
      refine bodyPost_ret (results_tmp2 rfl _ _ _) rfl ?_
      exact ⟨n, a - b, rfl, HE.out, hb⟩
set_option maxRecDepth 100000 in
set_option maxHeartbeats 4000000 in
theorem ofint_any (w : World) (n : Int) (hn : -9223372036854775808 ≤ n ∧ n ≤ 9223372036854775807) (hT : TabW w) :
    Calls Tryd.prog 42 #[.int .i64 n] w fun e w' => e = .returned (QV (n : Rat)) ∧ Below w.heap.size w w' := by
  have hbw : Below w.heap.size w (w.alloc (.cells #[.bool false, .string { data := #[] }, .string { data := #[] }] 25)) := (Below.refl w.heap.size w).alloc (Nat.le_refl _) _
  have k1 : R3 (w.alloc (.cells #[.bool false, .string { data := #[] }, .string { data := #[] }] 25)) w.heap.size false { data := #[] } { data := #[] } := R3.new w _ _ _
  have hz : (w.alloc (.cells #[.bool false, .string { data := #[] }, .string { data := #[] }] 25)).heap.size = w.heap.size + 1 := by simp
  have HTW := Lib.hid (fun W hW => TabW.below (w' := W) hT hW)
  have hlen : ∀ x : Nat, x < 18446744073709551617 → (natS x).size ≤ 8796093022208 := fun x hx => by
    rw [natS_size]
    have := (natL_len_le x 9).mpr (by omega)
    omega
  have HM := Lib.hid (fun (W : World) (k : Bool) (x : Nat) (hx : x < 18446744073709551617) (hW : Below w.heap.size w W) => made_any W k x 1 (by decide) (hlen x hx) (hlen 1 (by decide)) (HTW.out W hW))
  simp only [natS_one] at HM
  clear hT
  by_cases h0 : 0 ≤ n
  · have HO := Lib.hid (fun W => of_any W n hn)
    have HQ := Lib.hid (show QV (mkRat (sgn false n.toNat) 1) = QV (n : Rat) by
      rw [sgn_false, Int.toNat_of_nonneg h0, Rat.mkRat_one])
    rw [← HQ.out]
    have hx : n.toNat < 18446744073709551617 := by omega
    have hh : n ≥ 0 := h0
    replace HM := Lib.hid (fun W hW => HM.out W false n.toNat hx hW)
    obtain ⟨sa, hsa⟩ : ∃ s, s = natS n.toNat := ⟨_, rfl⟩
    obtain ⟨q, hq⟩ : ∃ s, s = mkRat (sgn false n.toNat) 1 := ⟨_, rfl⟩
    rw [← hsa] at HM HO
    rw [← hq] at HM ⊢
    clear hsa hlen hq HQ hx
    go_enter Tryd.func42, Tryd.ntmps42
    go_wp2_with fail
    generalize w.alloc _ = w1 at k1 hbw hz ⊢
    refine (HO.out _).mono ?_
    rintro e w2 ⟨rfl, hb2⟩
    replace k1 := k1.below hb2 k1.lt
    replace Hb := Lib.hid (hbw.trans (hb2.mono hbw.size))
    clear hb2 hbw
    go_wp2_with fail
    refine (HM.out _ Hb.out).mono ?_
    rintro e w3 ⟨rfl, hb2⟩
    replace k1 := k1.below hb2 k1.lt
    replace Hb := Lib.hid (Hb.out.trans (hb2.mono Hb.out.size))
    obtain ⟨_, _, _, f0, f1, f2⟩ := k1.facts
    have HZ := Lib.hid (k1.put (qn q) (qs q) (qt q))
    clear hb2 k1 HM HO
    unfold QV
    go_wp2
    refine bodyPost_ret (results_cell_row Tryd.results42 _ _ w.heap.size 25 _ (0, 0) _ rfl HZ.out Tryd.underlying25 rfl (by kernel_rfl)) rfl ?_
    exact ⟨rfl, (((Hb.out).setCell (by simp) _).setCell (by simp) _).setCell (by simp) _⟩
  · obtain ⟨x, rfl⟩ : ∃ x : Nat, n = -((x : Int) + 1) := ⟨(-n - 1).toNat, by omega⟩
    have HO := Lib.hid (fun W => of_any W (x : Int) (by omega))
    rw [Int.toNat_natCast] at HO
    have HA := Lib.hid (fun W => add_any W (natS x) (natS 1) (hlen x (by omega)) (hlen 1 (by decide)))
    rw [sval_natS, sval_natS, natS_one] at HA
    have HQ := Lib.hid (show QV (mkRat (sgn true (x + 1)) 1) = QV ((-((x : Int) + 1) : Int) : Rat) by
      rw [sgn_true, Rat.mkRat_one]; rfl)
    rw [← HQ.out]
    have hx : x + 1 < 18446744073709551617 := by omega
    have hh : ¬ (x : Int) + 1 ≤ 0 := by omega
    have hw1 : IntKind.i64.wrap (-((x : Int) + 1) + 1) = -(x : Int) := by rw [IntKind.wrap_i64]; omega
    have hw2 : IntKind.i64.wrap (x : Int) = x := by rw [IntKind.wrap_i64]; omega
    replace HM := Lib.hid (fun W hW => HM.out W true (x + 1) hx hW)
    obtain ⟨sa, hsa⟩ : ∃ s, s = natS x := ⟨_, rfl⟩
    obtain ⟨sc, hsc⟩ : ∃ s, s = natS (x + 1) := ⟨_, rfl⟩
    obtain ⟨q, hq⟩ : ∃ s, s = mkRat (sgn true (x + 1)) 1 := ⟨_, rfl⟩
    rw [← hsa] at HA HO
    rw [← hsc] at HM HA
    rw [← hq] at HM ⊢
    clear hsa hlen hq HQ hx hsc
    go_enter Tryd.func42, Tryd.ntmps42
    go_wp2_with fail
    generalize w.alloc _ = w1 at k1 hbw hz ⊢
    refine (HO.out _).mono ?_
    rintro e w2 ⟨rfl, hb2⟩
    replace k1 := k1.below hb2 k1.lt
    replace Hb := Lib.hid (hbw.trans (hb2.mono hbw.size))
    clear hb2 hbw
    go_wp2_with fail
    refine (HA.out _).mono ?_
    rintro e w3 ⟨rfl, hb2⟩
    replace k1 := k1.below hb2 k1.lt
    replace Hb := Lib.hid (Hb.out.trans (hb2.mono Hb.out.size))
    clear hb2
    go_wp2_with fail
    refine (HM.out _ Hb.out).mono ?_
    rintro e w4 ⟨rfl, hb2⟩
    replace k1 := k1.below hb2 k1.lt
    replace Hb := Lib.hid (Hb.out.trans (hb2.mono Hb.out.size))
    obtain ⟨_, _, _, f0, f1, f2⟩ := k1.facts
    have HZ := Lib.hid (k1.put (qn q) (qs q) (qt q))
    clear hb2 k1 HM HO HA
    unfold QV
    go_wp2
    refine bodyPost_ret (results_cell_row Tryd.results42 _ _ w.heap.size 25 _ (0, 0) _ rfl HZ.out Tryd.underlying25 rfl (by kernel_rfl)) rfl ?_
    exact ⟨rfl, (((Hb.out).setCell (by simp) _).setCell (by simp) _).setCell (by simp) _⟩
end Go.Proofs.YtnnbnecpcppkdaaDoor
namespace Go.Proofs.YtnnbnecpcppkdaaDoor
open Go.RowKit Go.Gy
set_option linter.unusedVariables false
set_option maxRecDepth 100000 in
set_option maxHeartbeats 4000000 in
theorem mulq_any (w : World) (n1 : Bool) (s1 t1 : ByteArray) (n2 : Bool) (s2 t2 : ByteArray) (q1 q2 : Rat) (hq1 : fitQ n1 s1 t1 = q1) (hq2 : fitQ n2 s2 t2 = q2) (hs1 : s1.size ≤ 1099511627776) (ht1 : t1.size ≤ 1099511627776) (hs2 : s2.size ≤ 1099511627776) (ht2 : t2.size ≤ 1099511627776) (hT : TabW w) :
    Calls Tryd.prog 41 #[.agg #[.bool n1, .string s1, .string t1], .agg #[.bool n2, .string s2, .string t2]] w fun e w' => e = .returned (QV (q1 * q2)) ∧ Below w.heap.size w w' := by
  have HTW := Lib.hid (fun W hW => TabW.below (w' := W) hT hW)
  have HF1 := Lib.hid (fun W hW => fit_any W n1 s1 t1 (by omega) (by omega) (HTW.out W hW))
  have HF2 := Lib.hid (fun W hW => fit_any W n2 s2 t2 (by omega) (by omega) (HTW.out W hW))
  rw [hq1] at HF1
  rw [hq2] at HF2
  have hz1 : qz q1 ≤ 1099511627776 := by rw [← hq1]; have := qz_fit n1 s1 t1; omega
  have hz2 : qz q2 ≤ 1099511627776 := by rw [← hq2]; have := qz_fit n2 s2 t2; omega
  clear hT
  unfold QV at HF1 HF2
  obtain ⟨kp, kq, kr, hB⟩ := R3.three w n1 s1 t1 n2 s2 t2
  have hp : w.heap.size ≤ w.heap.size := Nat.le_refl _
  have hq : w.heap.size ≤ w.heap.size + 1 := by omega
  have hpq : w.heap.size ≠ w.heap.size + 1 := by omega
  have hqp : w.heap.size + 1 ≠ w.heap.size := by omega
  have hrp : w.heap.size + 1 + 1 ≠ w.heap.size := by omega
  have hrq : w.heap.size + 1 + 1 ≠ w.heap.size + 1 := by omega
  go_enter Tryd.func41, Tryd.ntmps41
  go_upto_region 1 with (fail)
  go_cut [] (fun wx => FitR w w.heap.size (w.heap.size + 1) (w.heap.size + 1 + 1) q1 q2 wx)
  case first =>
    generalize ((w.alloc _).alloc _).alloc _ = w1 at kp kq kr hB ⊢
    refine wp_region_held_drew (S := fun _ => True) (by kernel_rfl) trivial (fun hHeld => ?_)
    clear hHeld
    replace kp := kp.drew
    replace kq := kq.drew
    replace kr := kr.drew
    replace hB := hB.drew
    generalize World.drew _ = W at kp kq kr hB ⊢
    refine wpAnyH_ready (rs := [0, 2]) (by kernel_rfl) (by simp) ?_
    refine AllReadyH.cons rfl (fun K hK => ?_) (AllReadyH.cons rfl (fun K hK => ?_) AllReadyH.nil)
    · rw [if_pos (by rfl)]
      obtain ⟨a0, a1, a2, _, _, _⟩ := kp.facts
      go_simp
      refine hK.out _ _ trivial (fun hHeld => ?_)
      clear hK K hHeld
      clear a0 a1 a2
      try simp only [Act.put, List.setIfInBounds_toArray, List.set_cons_zero, List.set_cons_succ]
      refine wpAnyH_ready (rs := [1, 2]) (by kernel_rfl) (by simp) ?_
      refine AllReadyH.cons rfl (fun K hK => ?_) (AllReadyH.cons rfl (fun K hK => ?_) AllReadyH.nil)
      · rw [if_pos (by rfl)]
        go_simp
        refine (HF1.out _ hB).mono ?_
        rintro e W' ⟨rfl, hb⟩
        replace kp := kp.below hb kp.lt
        replace kq := kq.below hb kq.lt
        replace kr := kr.below hb kr.lt
        replace hB := hB.trans (hb.mono hB.size)
        clear hb
        go_simp
        refine hK.out _ _ trivial (fun hHeld => ?_)
        clear hK K hHeld
        try simp only [Act.put, List.setIfInBounds_toArray, List.set_cons_zero, List.set_cons_succ]
        refine wpAnyH_ready (rs := [2]) (by kernel_rfl) (by simp) ?_
        refine AllReadyH.cons rfl (fun K hK => ?_) AllReadyH.nil
        · rw [if_pos (by rfl)]
          obtain ⟨a0, a1, a2, _, _, _⟩ := kq.facts
          go_simp
          refine hK.out _ _ trivial (fun hHeld => ?_)
          clear hK K hHeld
          clear a0 a1 a2
          try simp only [Act.put, List.setIfInBounds_toArray, List.set_cons_zero, List.set_cons_succ]
          refine wpAnyH_ready (rs := [3]) (by kernel_rfl) (by simp) ?_
          refine AllReadyH.cons rfl (fun K hK => ?_) AllReadyH.nil
          · rw [if_pos (by rfl)]
            go_simp
            refine (HF2.out _ hB).mono ?_
            rintro e W' ⟨rfl, hb⟩
            replace kp := kp.below hb kp.lt
            replace kq := kq.below hb kq.lt
            replace kr := kr.below hb kr.lt
            replace hB := hB.trans (hb.mono hB.size)
            clear hb
            go_simp
            refine hK.out _ _ trivial (fun hHeld => ?_)
            clear hK K hHeld
            try simp only [Act.put, List.setIfInBounds_toArray, List.set_cons_zero, List.set_cons_succ]
            refine wpAnyH_ready (rs := [4]) (by kernel_rfl) (by simp) ?_
            refine AllReadyH.cons rfl (fun K hK => ?_) AllReadyH.nil
            · rw [if_pos (by rfl)]
              obtain ⟨_, _, _, f0, f1, f2⟩ := kp.facts
              go_simp
              refine hK.out _ _ trivial (fun hHeld => ?_)
              clear hK K hHeld
              clear f0 f1 f2
              replace kq := kq.far3 hqp (.bool (qn q1)) (.string (qs q1)) (.string (qt q1))
              replace kr := kr.far3 hrp (.bool (qn q1)) (.string (qs q1)) (.string (qt q1))
              replace kp := kp.put (qn q1) (qs q1) (qt q1)
              replace hB := ((hB.setCell (p := ⟨w.heap.size, 0, none⟩) hp (.bool (qn q1))).setCell (p := ⟨w.heap.size, 1, none⟩) hp (.string (qs q1))).setCell (p := ⟨w.heap.size, 2, none⟩) hp (.string (qt q1))
              generalize ((World.setCell _ _ _).setCell _ _).setCell _ _ = W' at kp kq kr hB ⊢
              try simp only [Act.put, List.setIfInBounds_toArray, List.set_cons_zero, List.set_cons_succ]
              refine wpAnyH_ready (rs := [5]) (by kernel_rfl) (by simp) ?_
              refine AllReadyH.cons rfl (fun K hK => ?_) AllReadyH.nil
              · rw [if_pos (by rfl)]
                obtain ⟨_, _, _, f0, f1, f2⟩ := kq.facts
                go_simp
                refine hK.out _ _ trivial (fun hHeld => ?_)
                clear hK K hHeld
                clear f0 f1 f2
                replace kp := kp.far3 hpq (.bool (qn q2)) (.string (qs q2)) (.string (qt q2))
                replace kr := kr.far3 hrq (.bool (qn q2)) (.string (qs q2)) (.string (qt q2))
                replace kq := kq.put (qn q2) (qs q2) (qt q2)
                replace hB := ((hB.setCell (p := ⟨w.heap.size + 1, 0, none⟩) hq (.bool (qn q2))).setCell (p := ⟨w.heap.size + 1, 1, none⟩) hq (.string (qs q2))).setCell (p := ⟨w.heap.size + 1, 2, none⟩) hq (.string (qt q2))
                generalize ((World.setCell _ _ _).setCell _ _).setCell _ _ = W' at kp kq kr hB ⊢
                try simp only [Act.put, List.setIfInBounds_toArray, List.set_cons_zero, List.set_cons_succ]
                refine wpAnyH_done (by kernel_rfl) ?_ _
                go_wp2_with fail
                go_meet
                exact ⟨kp, kq, kr, hB⟩
      · rw [if_pos (by rfl)]
        obtain ⟨a0, a1, a2, _, _, _⟩ := kq.facts
        go_simp
        refine hK.out _ _ trivial (fun hHeld => ?_)
        clear hK K hHeld
        clear a0 a1 a2
        try simp only [Act.put, List.setIfInBounds_toArray, List.set_cons_zero, List.set_cons_succ]
        refine wpAnyH_ready (rs := [1]) (by kernel_rfl) (by simp) ?_
        refine AllReadyH.cons rfl (fun K hK => ?_) AllReadyH.nil
        · rw [if_pos (by rfl)]
          go_simp
          refine (HF1.out _ hB).mono ?_
          rintro e W' ⟨rfl, hb⟩
          replace kp := kp.below hb kp.lt
          replace kq := kq.below hb kq.lt
          replace kr := kr.below hb kr.lt
          replace hB := hB.trans (hb.mono hB.size)
          clear hb
          go_simp
          refine hK.out _ _ trivial (fun hHeld => ?_)
          clear hK K hHeld
          try simp only [Act.put, List.setIfInBounds_toArray, List.set_cons_zero, List.set_cons_succ]
          refine wpAnyH_ready (rs := [3]) (by kernel_rfl) (by simp) ?_
          refine AllReadyH.cons rfl (fun K hK => ?_) AllReadyH.nil
          · rw [if_pos (by rfl)]
            go_simp
            refine (HF2.out _ hB).mono ?_
            rintro e W' ⟨rfl, hb⟩
            replace kp := kp.below hb kp.lt
            replace kq := kq.below hb kq.lt
            replace kr := kr.below hb kr.lt
            replace hB := hB.trans (hb.mono hB.size)
            clear hb
            go_simp
            refine hK.out _ _ trivial (fun hHeld => ?_)
            clear hK K hHeld
            try simp only [Act.put, List.setIfInBounds_toArray, List.set_cons_zero, List.set_cons_succ]
            refine wpAnyH_ready (rs := [4]) (by kernel_rfl) (by simp) ?_
            refine AllReadyH.cons rfl (fun K hK => ?_) AllReadyH.nil
            · rw [if_pos (by rfl)]
              obtain ⟨_, _, _, f0, f1, f2⟩ := kp.facts
              go_simp
              refine hK.out _ _ trivial (fun hHeld => ?_)
              clear hK K hHeld
              clear f0 f1 f2
              replace kq := kq.far3 hqp (.bool (qn q1)) (.string (qs q1)) (.string (qt q1))
              replace kr := kr.far3 hrp (.bool (qn q1)) (.string (qs q1)) (.string (qt q1))
              replace kp := kp.put (qn q1) (qs q1) (qt q1)
              replace hB := ((hB.setCell (p := ⟨w.heap.size, 0, none⟩) hp (.bool (qn q1))).setCell (p := ⟨w.heap.size, 1, none⟩) hp (.string (qs q1))).setCell (p := ⟨w.heap.size, 2, none⟩) hp (.string (qt q1))
              generalize ((World.setCell _ _ _).setCell _ _).setCell _ _ = W' at kp kq kr hB ⊢
              try simp only [Act.put, List.setIfInBounds_toArray, List.set_cons_zero, List.set_cons_succ]
              refine wpAnyH_ready (rs := [5]) (by kernel_rfl) (by simp) ?_
              refine AllReadyH.cons rfl (fun K hK => ?_) AllReadyH.nil
              · rw [if_pos (by rfl)]
                obtain ⟨_, _, _, f0, f1, f2⟩ := kq.facts
                go_simp
                refine hK.out _ _ trivial (fun hHeld => ?_)
                clear hK K hHeld
                clear f0 f1 f2
                replace kp := kp.far3 hpq (.bool (qn q2)) (.string (qs q2)) (.string (qt q2))
                replace kr := kr.far3 hrq (.bool (qn q2)) (.string (qs q2)) (.string (qt q2))
                replace kq := kq.put (qn q2) (qs q2) (qt q2)
                replace hB := ((hB.setCell (p := ⟨w.heap.size + 1, 0, none⟩) hq (.bool (qn q2))).setCell (p := ⟨w.heap.size + 1, 1, none⟩) hq (.string (qs q2))).setCell (p := ⟨w.heap.size + 1, 2, none⟩) hq (.string (qt q2))
                generalize ((World.setCell _ _ _).setCell _ _).setCell _ _ = W' at kp kq kr hB ⊢
                try simp only [Act.put, List.setIfInBounds_toArray, List.set_cons_zero, List.set_cons_succ]
                refine wpAnyH_done (by kernel_rfl) ?_ _
                go_wp2_with fail
                go_meet
                exact ⟨kp, kq, kr, hB⟩
    · rw [if_pos (by rfl)]
      obtain ⟨a0, a1, a2, _, _, _⟩ := kq.facts
      go_simp
      refine hK.out _ _ trivial (fun hHeld => ?_)
      clear hK K hHeld
      clear a0 a1 a2
      try simp only [Act.put, List.setIfInBounds_toArray, List.set_cons_zero, List.set_cons_succ]
      refine wpAnyH_ready (rs := [0]) (by kernel_rfl) (by simp) ?_
      refine AllReadyH.cons rfl (fun K hK => ?_) AllReadyH.nil
      · rw [if_pos (by rfl)]
        obtain ⟨a0, a1, a2, _, _, _⟩ := kp.facts
        go_simp
        refine hK.out _ _ trivial (fun hHeld => ?_)
        clear hK K hHeld
        clear a0 a1 a2
        try simp only [Act.put, List.setIfInBounds_toArray, List.set_cons_zero, List.set_cons_succ]
        refine wpAnyH_ready (rs := [1]) (by kernel_rfl) (by simp) ?_
        refine AllReadyH.cons rfl (fun K hK => ?_) AllReadyH.nil
        · rw [if_pos (by rfl)]
          go_simp
          refine (HF1.out _ hB).mono ?_
          rintro e W' ⟨rfl, hb⟩
          replace kp := kp.below hb kp.lt
          replace kq := kq.below hb kq.lt
          replace kr := kr.below hb kr.lt
          replace hB := hB.trans (hb.mono hB.size)
          clear hb
          go_simp
          refine hK.out _ _ trivial (fun hHeld => ?_)
          clear hK K hHeld
          try simp only [Act.put, List.setIfInBounds_toArray, List.set_cons_zero, List.set_cons_succ]
          refine wpAnyH_ready (rs := [3]) (by kernel_rfl) (by simp) ?_
          refine AllReadyH.cons rfl (fun K hK => ?_) AllReadyH.nil
          · rw [if_pos (by rfl)]
            go_simp
            refine (HF2.out _ hB).mono ?_
            rintro e W' ⟨rfl, hb⟩
            replace kp := kp.below hb kp.lt
            replace kq := kq.below hb kq.lt
            replace kr := kr.below hb kr.lt
            replace hB := hB.trans (hb.mono hB.size)
            clear hb
            go_simp
            refine hK.out _ _ trivial (fun hHeld => ?_)
            clear hK K hHeld
            try simp only [Act.put, List.setIfInBounds_toArray, List.set_cons_zero, List.set_cons_succ]
            refine wpAnyH_ready (rs := [4]) (by kernel_rfl) (by simp) ?_
            refine AllReadyH.cons rfl (fun K hK => ?_) AllReadyH.nil
            · rw [if_pos (by rfl)]
              obtain ⟨_, _, _, f0, f1, f2⟩ := kp.facts
              go_simp
              refine hK.out _ _ trivial (fun hHeld => ?_)
              clear hK K hHeld
              clear f0 f1 f2
              replace kq := kq.far3 hqp (.bool (qn q1)) (.string (qs q1)) (.string (qt q1))
              replace kr := kr.far3 hrp (.bool (qn q1)) (.string (qs q1)) (.string (qt q1))
              replace kp := kp.put (qn q1) (qs q1) (qt q1)
              replace hB := ((hB.setCell (p := ⟨w.heap.size, 0, none⟩) hp (.bool (qn q1))).setCell (p := ⟨w.heap.size, 1, none⟩) hp (.string (qs q1))).setCell (p := ⟨w.heap.size, 2, none⟩) hp (.string (qt q1))
              generalize ((World.setCell _ _ _).setCell _ _).setCell _ _ = W' at kp kq kr hB ⊢
              try simp only [Act.put, List.setIfInBounds_toArray, List.set_cons_zero, List.set_cons_succ]
              refine wpAnyH_ready (rs := [5]) (by kernel_rfl) (by simp) ?_
              refine AllReadyH.cons rfl (fun K hK => ?_) AllReadyH.nil
              · rw [if_pos (by rfl)]
                obtain ⟨_, _, _, f0, f1, f2⟩ := kq.facts
                go_simp
                refine hK.out _ _ trivial (fun hHeld => ?_)
                clear hK K hHeld
                clear f0 f1 f2
                replace kp := kp.far3 hpq (.bool (qn q2)) (.string (qs q2)) (.string (qt q2))
                replace kr := kr.far3 hrq (.bool (qn q2)) (.string (qs q2)) (.string (qt q2))
                replace kq := kq.put (qn q2) (qs q2) (qt q2)
                replace hB := ((hB.setCell (p := ⟨w.heap.size + 1, 0, none⟩) hq (.bool (qn q2))).setCell (p := ⟨w.heap.size + 1, 1, none⟩) hq (.string (qs q2))).setCell (p := ⟨w.heap.size + 1, 2, none⟩) hq (.string (qt q2))
                generalize ((World.setCell _ _ _).setCell _ _).setCell _ _ = W' at kp kq kr hB ⊢
                try simp only [Act.put, List.setIfInBounds_toArray, List.set_cons_zero, List.set_cons_succ]
                refine wpAnyH_done (by kernel_rfl) ?_ _
                go_wp2_with fail
                go_meet
                exact ⟨kp, kq, kr, hB⟩
  case rest =>
    clear kp kq kr hB
    obtain ⟨kp, kq, kr, hB⟩ := hcut
    have M1 := Lib.hid (fun W => mul_any W (natS q1.num.natAbs) (natS q2.num.natAbs) (by have := qs_size q1; unfold qs at this; omega) (by have := qs_size q2; unfold qs at this; omega))
    simp only [sval_natS] at M1
    have hlM1 := natL_len_mul q1.num.natAbs q2.num.natAbs
    rw [show natS q1.num.natAbs = qs q1 from rfl, show natS q2.num.natAbs = qs q2 from rfl] at M1
    have M2 := Lib.hid (fun W => mul_any W (natS q1.den) (natS q2.den) (by have := qt_size q1; unfold qt at this; omega) (by have := qt_size q2; unfold qt at this; omega))
    simp only [sval_natS] at M2
    have hlM2 := natL_len_mul q1.den q2.den
    rw [show natS q1.den = qt q1 from rfl, show natS q2.den = qt q2 from rfl] at M2
    have MD := Lib.hid (fun W hW => made_any W (qn q1 != qn q2) (q1.num.natAbs * q2.num.natAbs) (q1.den * q2.den) (Nat.mul_ne_zero q1.den_nz q2.den_nz) (by rw [natS_size]; unfold qz at hz1 hz2; omega) (by rw [natS_size]; unfold qz at hz1 hz2; omega) (HTW.out W hW))
    have HQ := Lib.hid (show mkRat (sgn (qn q1 != qn q2) (q1.num.natAbs * q2.num.natAbs)) (q1.den * q2.den) = q1 * q2 by rw [← sgn_mul, qn_sgn, qn_sgn, Rat.mul_def'])
    rw [HQ.out] at MD
    have HS := Lib.hid (show ∀ w', Below (w.heap.size + 1 + 1) wc w' → w'.cell? ⟨w.heap.size, 0, none⟩ = some (.bool (qn q1)) ∧ w'.cell? ⟨w.heap.size, 1, none⟩ = some (.string (qs q1)) ∧ w'.cell? ⟨w.heap.size, 2, none⟩ = some (.string (qt q1)) ∧ w'.cell? ⟨w.heap.size + 1, 0, none⟩ = some (.bool (qn q2)) ∧ w'.cell? ⟨w.heap.size + 1, 1, none⟩ = some (.string (qs q2)) ∧ w'.cell? ⟨w.heap.size + 1, 2, none⟩ = some (.string (qt q2)) from fun w' hb => by
      obtain ⟨h1, h2, h3, _⟩ := (kp.below hb (by omega)).facts
      obtain ⟨h4, h5, h6, _⟩ := (kq.below hb (by omega)).facts
      exact ⟨h1, h2, h3, h4, h5, h6⟩)
    unfold QV at MD
    obtain ⟨nQ, hnQ⟩ : ∃ x, x = qn (q1 * q2) := ⟨_, rfl⟩
    obtain ⟨sQ, hsQ⟩ : ∃ x, x = qs (q1 * q2) := ⟨_, rfl⟩
    obtain ⟨tQ, htQ⟩ : ∃ x, x = qt (q1 * q2) := ⟨_, rfl⟩
    have HV := Lib.hid (show Value.agg #[.bool nQ, .string sQ, .string tQ] = QV (q1 * q2) by rw [hnQ, hsQ, htQ]; rfl)
    rw [← hnQ, ← hsQ, ← htQ] at MD
    clear hnQ hsQ htQ
    clear HQ HF1 HF2 hlM1 hlM2 hz1 hz2 hq1 hq2 hs1 hs2 ht1 ht2
    obtain ⟨b1, hb1⟩ : ∃ x, x = qn q1 := ⟨_, rfl⟩
    obtain ⟨b2, hb2⟩ : ∃ x, x = qn q2 := ⟨_, rfl⟩
    obtain ⟨a1, ha1⟩ : ∃ x, x = qs q1 := ⟨_, rfl⟩
    obtain ⟨a2, ha2⟩ : ∃ x, x = qs q2 := ⟨_, rfl⟩
    obtain ⟨d1, hd1⟩ : ∃ x, x = qt q1 := ⟨_, rfl⟩
    obtain ⟨d2, hd2⟩ : ∃ x, x = qt q2 := ⟨_, rfl⟩
    obtain ⟨a, ha⟩ : ∃ x, x = natS (q1.num.natAbs * q2.num.natAbs) := ⟨_, rfl⟩
    obtain ⟨d, hd⟩ : ∃ x, x = natS (q1.den * q2.den) := ⟨_, rfl⟩
    rw [← hb1, ← hb2, ← ha, ← hd] at MD
    rw [← ha1, ← ha2, ← ha] at M1
    rw [← hd1, ← hd2, ← hd] at M2
    rw [← hb1, ← hb2, ← ha1, ← ha2, ← hd1, ← hd2] at HS
    clear hb1 hb2 ha1 ha2 hd1 hd2 ha hd kp kq
    have hb0 := Lib.hid (Below.refl (w.heap.size + 1 + 1) wc)
    have hsz := hB.size
    have hlt := kr.lt
    have HB := Lib.hid hB
    clear hB
    go_wp2_with fail
    go_region_held3 (fun w' => w'.cell? ⟨w.heap.size, 0, none⟩ = some (.bool b1) ∧ w'.cell? ⟨w.heap.size, 1, none⟩ = some (.string a1) ∧ w'.cell? ⟨w.heap.size, 2, none⟩ = some (.string d1) ∧ w'.cell? ⟨w.heap.size + 1, 0, none⟩ = some (.bool b2) ∧ w'.cell? ⟨w.heap.size + 1, 1, none⟩ = some (.string a2) ∧ w'.cell? ⟨w.heap.size + 1, 2, none⟩ = some (.string d2))
      (with_reducible (first
        | exact HS.out _ (((hr5.setCell (p := ⟨w.heap.size + 1 + 1, 0, none⟩) (Nat.le_refl _) (.bool nQ)).setCell (p := ⟨w.heap.size + 1 + 1, 1, none⟩) (Nat.le_refl _) (.string sQ)).setCell (p := ⟨w.heap.size + 1 + 1, 2, none⟩) (Nat.le_refl _) (.string tQ))
        | exact HS.out _ hr5
        | exact HS.out _ hr4
        | exact HS.out _ hr3
        | exact HS.out _ hb0.out.drew))
      (first
        | (go_at_call_of 70 (Value.string a1); refine (M1.out _).mono ?_; rintro e w3 ⟨rfl, hb3⟩; have hr3 := hb0.out.drew.trans (hb3.mono (show w.heap.size + 1 + 1 ≤ wc.heap.size by omega)); have kr3 := kr.drew.below hb3 kr.lt)
        | (go_at_call_of 70 (Value.string d1); refine (M2.out _).mono ?_; rintro e w4 ⟨rfl, hb4⟩; have hr4 := hr3.trans (hb4.mono (by have := hr3.size; omega)); have kr4 := kr3.below hb4 kr3.lt)
        | (go_at_call 79; refine (MD.out _ (HB.out.trans (hr4.mono (by omega)))).mono ?_; rintro e w5 ⟨rfl, hb5⟩; have hr5 := hr4.trans (hb5.mono (by have := hr4.size; omega)); have kr5 := kr4.below hb5 kr4.lt; obtain ⟨_, _, _, f0, f1, f2⟩ := kr5.facts))
    rename_i hHeld
    clear hHeld
    have HZ := Lib.hid (kr5.put nQ sQ tQ)
    have hfin : Below w.heap.size w w5 := HB.out.trans (hr5.mono (by omega))
    clear f0 f1 f2 kr3 kr4 kr5 hr3 hr4 hr5 hb3 hb4 hb5 M1 M2 MD HS
    go_wp2
    refine bodyPost_ret (results_cell_row Tryd.results41 _ _ (w.heap.size + 1 + 1) 25 _ (0, 0) _ rfl HZ.out Tryd.underlying25 rfl (by kernel_rfl)) rfl ?_
    exact ⟨congrArg Ending.returned HV.out, ((hfin.setCell (by simp; omega) _).setCell (by simp; omega) _).setCell (by simp; omega) _⟩
end Go.Proofs.YtnnbnecpcppkdaaDoor
namespace Go.Proofs.YtnnbnecpcppkdaaDoor
open Go.RowKit Go.Gy
set_option linter.unusedVariables false
theorem results_cell_two {P : Program} {fn : Func} {p q : Tmp} {ty : TypeId} (h : fn.results = #[.cell p ty, .tmp q]) (tmps : Array Value) (w : World) (g : Nat) (t : TypeId) (cs : Array Value) (fr : Nat × Nat) (d : TypeDesc) (u : Value)
    (hp : tmps.getD p undef = .pointer (some ⟨g, 0, none⟩)) (hq : tmps.getD q undef = u) (hg : w.heap[g]? = some (.cells cs t fr))
    (hu : P.underlying ty = some d) (hd : (match d with | .struct _ | .array _ _ => true | _ => false) = true) (hi : (P.info? ty).map (·.size) = some cs.size) :
    (results fn tmps).run P w = .ok (.tuple #[.agg cs, u]) w := by
  have hp' : tmps[p]?.getD undef = .pointer (some ⟨g, 0, none⟩) := by simpa using hp
  have hq' : tmps[q]?.getD undef = u := by simpa using hq
  simp [results, h, hp', hq', asAddr, run_loadVar_row w g t ty cs fr d hg hu hd hi]
/-- the quotient's value and errno -/
def divV (a b : Rat) : Value := if b = 0 then .agg #[.bool false, .string { data := #[] }, .string { data := #[] }] else QV (a / b)
def divE (b : Rat) : Int := if b = 0 then 12 else 0
set_option maxRecDepth 100000 in
set_option maxHeartbeats 4000000 in
theorem divq_any (w : World) (n1 : Bool) (s1 t1 : ByteArray) (n2 : Bool) (s2 t2 : ByteArray) (q1 q2 : Rat) (hq1 : fitQ n1 s1 t1 = q1) (hq2 : fitQ n2 s2 t2 = q2) (hs1 : s1.size ≤ 1099511627776) (ht1 : t1.size ≤ 1099511627776) (hs2 : s2.size ≤ 1099511627776) (ht2 : t2.size ≤ 1099511627776) (hT : TabW w) :
    Calls Tryd.prog 65 #[.agg #[.bool n1, .string s1, .string t1], .agg #[.bool n2, .string s2, .string t2]] w fun e w' => e = .returned (.tuple #[divV q1 q2, .int .i64 (divE q2)]) ∧ Below w.heap.size w w' := by
  have HTW := Lib.hid (fun W hW => TabW.below (w' := W) hT hW)
  have HF1 := Lib.hid (fun W hW => fit_any W n1 s1 t1 (by omega) (by omega) (HTW.out W hW))
  have HF2 := Lib.hid (fun W hW => fit_any W n2 s2 t2 (by omega) (by omega) (HTW.out W hW))
  rw [hq1] at HF1
  rw [hq2] at HF2
  have hz1 : qz q1 ≤ 1099511627776 := by rw [← hq1]; have := qz_fit n1 s1 t1; omega
  have hz2 : qz q2 ≤ 1099511627776 := by rw [← hq2]; have := qz_fit n2 s2 t2; omega
  clear hT
  unfold QV at HF1 HF2
  obtain ⟨kp, kq, kr, hB⟩ := R3.three w n1 s1 t1 n2 s2 t2
  have hp : w.heap.size ≤ w.heap.size := Nat.le_refl _
  have hq : w.heap.size ≤ w.heap.size + 1 := by omega
  have hpq : w.heap.size ≠ w.heap.size + 1 := by omega
  have hqp : w.heap.size + 1 ≠ w.heap.size := by omega
  have hrp : w.heap.size + 1 + 1 ≠ w.heap.size := by omega
  have hrq : w.heap.size + 1 + 1 ≠ w.heap.size + 1 := by omega
  go_enter Tryd.func65, Tryd.ntmps65
  go_upto_region 1 with (fail)
  go_cut [] (fun wx => FitR w w.heap.size (w.heap.size + 1) (w.heap.size + 1 + 1) q1 q2 wx)
  case first =>
    generalize ((w.alloc _).alloc _).alloc _ = w1 at kp kq kr hB ⊢
    refine wp_region_held_drew (S := fun _ => True) (by kernel_rfl) trivial (fun hHeld => ?_)
    clear hHeld
    replace kp := kp.drew
    replace kq := kq.drew
    replace kr := kr.drew
    replace hB := hB.drew
    generalize World.drew _ = W at kp kq kr hB ⊢
    refine wpAnyH_ready (rs := [0, 2]) (by kernel_rfl) (by simp) ?_
    refine AllReadyH.cons rfl (fun K hK => ?_) (AllReadyH.cons rfl (fun K hK => ?_) AllReadyH.nil)
    · rw [if_pos (by rfl)]
      obtain ⟨a0, a1, a2, _, _, _⟩ := kp.facts
      go_simp
      refine hK.out _ _ trivial (fun hHeld => ?_)
      clear hK K hHeld
      clear a0 a1 a2
      try simp only [Act.put, List.setIfInBounds_toArray, List.set_cons_zero, List.set_cons_succ]
      refine wpAnyH_ready (rs := [1, 2]) (by kernel_rfl) (by simp) ?_
      refine AllReadyH.cons rfl (fun K hK => ?_) (AllReadyH.cons rfl (fun K hK => ?_) AllReadyH.nil)
      · rw [if_pos (by rfl)]
        go_simp
        refine (HF1.out _ hB).mono ?_
        rintro e W' ⟨rfl, hb⟩
        replace kp := kp.below hb kp.lt
        replace kq := kq.below hb kq.lt
        replace kr := kr.below hb kr.lt
        replace hB := hB.trans (hb.mono hB.size)
        clear hb
        go_simp
        refine hK.out _ _ trivial (fun hHeld => ?_)
        clear hK K hHeld
        try simp only [Act.put, List.setIfInBounds_toArray, List.set_cons_zero, List.set_cons_succ]
        refine wpAnyH_ready (rs := [2]) (by kernel_rfl) (by simp) ?_
        refine AllReadyH.cons rfl (fun K hK => ?_) AllReadyH.nil
        · rw [if_pos (by rfl)]
          obtain ⟨a0, a1, a2, _, _, _⟩ := kq.facts
          go_simp
          refine hK.out _ _ trivial (fun hHeld => ?_)
          clear hK K hHeld
          clear a0 a1 a2
          try simp only [Act.put, List.setIfInBounds_toArray, List.set_cons_zero, List.set_cons_succ]
          refine wpAnyH_ready (rs := [3]) (by kernel_rfl) (by simp) ?_
          refine AllReadyH.cons rfl (fun K hK => ?_) AllReadyH.nil
          · rw [if_pos (by rfl)]
            go_simp
            refine (HF2.out _ hB).mono ?_
            rintro e W' ⟨rfl, hb⟩
            replace kp := kp.below hb kp.lt
            replace kq := kq.below hb kq.lt
            replace kr := kr.below hb kr.lt
            replace hB := hB.trans (hb.mono hB.size)
            clear hb
            go_simp
            refine hK.out _ _ trivial (fun hHeld => ?_)
            clear hK K hHeld
            try simp only [Act.put, List.setIfInBounds_toArray, List.set_cons_zero, List.set_cons_succ]
            refine wpAnyH_ready (rs := [4]) (by kernel_rfl) (by simp) ?_
            refine AllReadyH.cons rfl (fun K hK => ?_) AllReadyH.nil
            · rw [if_pos (by rfl)]
              obtain ⟨_, _, _, f0, f1, f2⟩ := kp.facts
              go_simp
              refine hK.out _ _ trivial (fun hHeld => ?_)
              clear hK K hHeld
              clear f0 f1 f2
              replace kq := kq.far3 hqp (.bool (qn q1)) (.string (qs q1)) (.string (qt q1))
              replace kr := kr.far3 hrp (.bool (qn q1)) (.string (qs q1)) (.string (qt q1))
              replace kp := kp.put (qn q1) (qs q1) (qt q1)
              replace hB := ((hB.setCell (p := ⟨w.heap.size, 0, none⟩) hp (.bool (qn q1))).setCell (p := ⟨w.heap.size, 1, none⟩) hp (.string (qs q1))).setCell (p := ⟨w.heap.size, 2, none⟩) hp (.string (qt q1))
              generalize ((World.setCell _ _ _).setCell _ _).setCell _ _ = W' at kp kq kr hB ⊢
              try simp only [Act.put, List.setIfInBounds_toArray, List.set_cons_zero, List.set_cons_succ]
              refine wpAnyH_ready (rs := [5]) (by kernel_rfl) (by simp) ?_
              refine AllReadyH.cons rfl (fun K hK => ?_) AllReadyH.nil
              · rw [if_pos (by rfl)]
                obtain ⟨_, _, _, f0, f1, f2⟩ := kq.facts
                go_simp
                refine hK.out _ _ trivial (fun hHeld => ?_)
                clear hK K hHeld
                clear f0 f1 f2
                replace kp := kp.far3 hpq (.bool (qn q2)) (.string (qs q2)) (.string (qt q2))
                replace kr := kr.far3 hrq (.bool (qn q2)) (.string (qs q2)) (.string (qt q2))
                replace kq := kq.put (qn q2) (qs q2) (qt q2)
                replace hB := ((hB.setCell (p := ⟨w.heap.size + 1, 0, none⟩) hq (.bool (qn q2))).setCell (p := ⟨w.heap.size + 1, 1, none⟩) hq (.string (qs q2))).setCell (p := ⟨w.heap.size + 1, 2, none⟩) hq (.string (qt q2))
                generalize ((World.setCell _ _ _).setCell _ _).setCell _ _ = W' at kp kq kr hB ⊢
                try simp only [Act.put, List.setIfInBounds_toArray, List.set_cons_zero, List.set_cons_succ]
                refine wpAnyH_done (by kernel_rfl) ?_ _
                go_wp2_with fail
                go_meet
                exact ⟨kp, kq, kr, hB⟩
      · rw [if_pos (by rfl)]
        obtain ⟨a0, a1, a2, _, _, _⟩ := kq.facts
        go_simp
        refine hK.out _ _ trivial (fun hHeld => ?_)
        clear hK K hHeld
        clear a0 a1 a2
        try simp only [Act.put, List.setIfInBounds_toArray, List.set_cons_zero, List.set_cons_succ]
        refine wpAnyH_ready (rs := [1]) (by kernel_rfl) (by simp) ?_
        refine AllReadyH.cons rfl (fun K hK => ?_) AllReadyH.nil
        · rw [if_pos (by rfl)]
          go_simp
          refine (HF1.out _ hB).mono ?_
          rintro e W' ⟨rfl, hb⟩
          replace kp := kp.below hb kp.lt
          replace kq := kq.below hb kq.lt
          replace kr := kr.below hb kr.lt
          replace hB := hB.trans (hb.mono hB.size)
          clear hb
          go_simp
          refine hK.out _ _ trivial (fun hHeld => ?_)
          clear hK K hHeld
          try simp only [Act.put, List.setIfInBounds_toArray, List.set_cons_zero, List.set_cons_succ]
          refine wpAnyH_ready (rs := [3]) (by kernel_rfl) (by simp) ?_
          refine AllReadyH.cons rfl (fun K hK => ?_) AllReadyH.nil
          · rw [if_pos (by rfl)]
            go_simp
            refine (HF2.out _ hB).mono ?_
            rintro e W' ⟨rfl, hb⟩
            replace kp := kp.below hb kp.lt
            replace kq := kq.below hb kq.lt
            replace kr := kr.below hb kr.lt
            replace hB := hB.trans (hb.mono hB.size)
            clear hb
            go_simp
            refine hK.out _ _ trivial (fun hHeld => ?_)
            clear hK K hHeld
            try simp only [Act.put, List.setIfInBounds_toArray, List.set_cons_zero, List.set_cons_succ]
            refine wpAnyH_ready (rs := [4]) (by kernel_rfl) (by simp) ?_
            refine AllReadyH.cons rfl (fun K hK => ?_) AllReadyH.nil
            · rw [if_pos (by rfl)]
              obtain ⟨_, _, _, f0, f1, f2⟩ := kp.facts
              go_simp
              refine hK.out _ _ trivial (fun hHeld => ?_)
              clear hK K hHeld
              clear f0 f1 f2
              replace kq := kq.far3 hqp (.bool (qn q1)) (.string (qs q1)) (.string (qt q1))
              replace kr := kr.far3 hrp (.bool (qn q1)) (.string (qs q1)) (.string (qt q1))
              replace kp := kp.put (qn q1) (qs q1) (qt q1)
              replace hB := ((hB.setCell (p := ⟨w.heap.size, 0, none⟩) hp (.bool (qn q1))).setCell (p := ⟨w.heap.size, 1, none⟩) hp (.string (qs q1))).setCell (p := ⟨w.heap.size, 2, none⟩) hp (.string (qt q1))
              generalize ((World.setCell _ _ _).setCell _ _).setCell _ _ = W' at kp kq kr hB ⊢
              try simp only [Act.put, List.setIfInBounds_toArray, List.set_cons_zero, List.set_cons_succ]
              refine wpAnyH_ready (rs := [5]) (by kernel_rfl) (by simp) ?_
              refine AllReadyH.cons rfl (fun K hK => ?_) AllReadyH.nil
              · rw [if_pos (by rfl)]
                obtain ⟨_, _, _, f0, f1, f2⟩ := kq.facts
                go_simp
                refine hK.out _ _ trivial (fun hHeld => ?_)
                clear hK K hHeld
                clear f0 f1 f2
                replace kp := kp.far3 hpq (.bool (qn q2)) (.string (qs q2)) (.string (qt q2))
                replace kr := kr.far3 hrq (.bool (qn q2)) (.string (qs q2)) (.string (qt q2))
                replace kq := kq.put (qn q2) (qs q2) (qt q2)
                replace hB := ((hB.setCell (p := ⟨w.heap.size + 1, 0, none⟩) hq (.bool (qn q2))).setCell (p := ⟨w.heap.size + 1, 1, none⟩) hq (.string (qs q2))).setCell (p := ⟨w.heap.size + 1, 2, none⟩) hq (.string (qt q2))
                generalize ((World.setCell _ _ _).setCell _ _).setCell _ _ = W' at kp kq kr hB ⊢
                try simp only [Act.put, List.setIfInBounds_toArray, List.set_cons_zero, List.set_cons_succ]
                refine wpAnyH_done (by kernel_rfl) ?_ _
                go_wp2_with fail
                go_meet
                exact ⟨kp, kq, kr, hB⟩
    · rw [if_pos (by rfl)]
      obtain ⟨a0, a1, a2, _, _, _⟩ := kq.facts
      go_simp
      refine hK.out _ _ trivial (fun hHeld => ?_)
      clear hK K hHeld
      clear a0 a1 a2
      try simp only [Act.put, List.setIfInBounds_toArray, List.set_cons_zero, List.set_cons_succ]
      refine wpAnyH_ready (rs := [0]) (by kernel_rfl) (by simp) ?_
      refine AllReadyH.cons rfl (fun K hK => ?_) AllReadyH.nil
      · rw [if_pos (by rfl)]
        obtain ⟨a0, a1, a2, _, _, _⟩ := kp.facts
        go_simp
        refine hK.out _ _ trivial (fun hHeld => ?_)
        clear hK K hHeld
        clear a0 a1 a2
        try simp only [Act.put, List.setIfInBounds_toArray, List.set_cons_zero, List.set_cons_succ]
        refine wpAnyH_ready (rs := [1]) (by kernel_rfl) (by simp) ?_
        refine AllReadyH.cons rfl (fun K hK => ?_) AllReadyH.nil
        · rw [if_pos (by rfl)]
          go_simp
          refine (HF1.out _ hB).mono ?_
          rintro e W' ⟨rfl, hb⟩
          replace kp := kp.below hb kp.lt
          replace kq := kq.below hb kq.lt
          replace kr := kr.below hb kr.lt
          replace hB := hB.trans (hb.mono hB.size)
          clear hb
          go_simp
          refine hK.out _ _ trivial (fun hHeld => ?_)
          clear hK K hHeld
          try simp only [Act.put, List.setIfInBounds_toArray, List.set_cons_zero, List.set_cons_succ]
          refine wpAnyH_ready (rs := [3]) (by kernel_rfl) (by simp) ?_
          refine AllReadyH.cons rfl (fun K hK => ?_) AllReadyH.nil
          · rw [if_pos (by rfl)]
            go_simp
            refine (HF2.out _ hB).mono ?_
            rintro e W' ⟨rfl, hb⟩
            replace kp := kp.below hb kp.lt
            replace kq := kq.below hb kq.lt
            replace kr := kr.below hb kr.lt
            replace hB := hB.trans (hb.mono hB.size)
            clear hb
            go_simp
            refine hK.out _ _ trivial (fun hHeld => ?_)
            clear hK K hHeld
            try simp only [Act.put, List.setIfInBounds_toArray, List.set_cons_zero, List.set_cons_succ]
            refine wpAnyH_ready (rs := [4]) (by kernel_rfl) (by simp) ?_
            refine AllReadyH.cons rfl (fun K hK => ?_) AllReadyH.nil
            · rw [if_pos (by rfl)]
              obtain ⟨_, _, _, f0, f1, f2⟩ := kp.facts
              go_simp
              refine hK.out _ _ trivial (fun hHeld => ?_)
              clear hK K hHeld
              clear f0 f1 f2
              replace kq := kq.far3 hqp (.bool (qn q1)) (.string (qs q1)) (.string (qt q1))
              replace kr := kr.far3 hrp (.bool (qn q1)) (.string (qs q1)) (.string (qt q1))
              replace kp := kp.put (qn q1) (qs q1) (qt q1)
              replace hB := ((hB.setCell (p := ⟨w.heap.size, 0, none⟩) hp (.bool (qn q1))).setCell (p := ⟨w.heap.size, 1, none⟩) hp (.string (qs q1))).setCell (p := ⟨w.heap.size, 2, none⟩) hp (.string (qt q1))
              generalize ((World.setCell _ _ _).setCell _ _).setCell _ _ = W' at kp kq kr hB ⊢
              try simp only [Act.put, List.setIfInBounds_toArray, List.set_cons_zero, List.set_cons_succ]
              refine wpAnyH_ready (rs := [5]) (by kernel_rfl) (by simp) ?_
              refine AllReadyH.cons rfl (fun K hK => ?_) AllReadyH.nil
              · rw [if_pos (by rfl)]
                obtain ⟨_, _, _, f0, f1, f2⟩ := kq.facts
                go_simp
                refine hK.out _ _ trivial (fun hHeld => ?_)
                clear hK K hHeld
                clear f0 f1 f2
                replace kp := kp.far3 hpq (.bool (qn q2)) (.string (qs q2)) (.string (qt q2))
                replace kr := kr.far3 hrq (.bool (qn q2)) (.string (qs q2)) (.string (qt q2))
                replace kq := kq.put (qn q2) (qs q2) (qt q2)
                replace hB := ((hB.setCell (p := ⟨w.heap.size + 1, 0, none⟩) hq (.bool (qn q2))).setCell (p := ⟨w.heap.size + 1, 1, none⟩) hq (.string (qs q2))).setCell (p := ⟨w.heap.size + 1, 2, none⟩) hq (.string (qt q2))
                generalize ((World.setCell _ _ _).setCell _ _).setCell _ _ = W' at kp kq kr hB ⊢
                try simp only [Act.put, List.setIfInBounds_toArray, List.set_cons_zero, List.set_cons_succ]
                refine wpAnyH_done (by kernel_rfl) ?_ _
                go_wp2_with fail
                go_meet
                exact ⟨kp, kq, kr, hB⟩
  case rest =>
    clear kp kq kr hB
    obtain ⟨kp, kq, kr, hB⟩ := hcut
    have he := natS_empty q2.num.natAbs
    rw [show natS q2.num.natAbs = qs q2 from rfl] at he
    obtain ⟨_, cq, _, _⟩ := kq.facts
    by_cases h0 : q2 = 0
    · have HN := Lib.hid (show divV q1 q2 = .agg #[.bool false, .string { data := #[] }, .string { data := #[] }] from if_pos h0)
      have HN2 := Lib.hid (show divE q2 = 12 from if_pos h0)
      rw [decide_eq_true (by rw [h0]; rfl)] at he
      obtain ⟨a2, ha2⟩ : ∃ x, x = qs q2 := ⟨_, rfl⟩
      rw [← ha2] at he cq
      obtain ⟨_, _, _, f0, f1, f2⟩ := kr.facts
      have HZ := Lib.hid (kr.put false { data := #[] } { data := #[] })
      clear kp kq kr HF1 HF2 ha2 h0
      go_wp2
      refine bodyPost_ret (results_cell_two Tryd.results65 _ _ (w.heap.size + 1 + 1) 25 #[.bool false, .string { data := #[] }, .string { data := #[] }] (0, 0) _ (.int .i64 12) rfl rfl HZ.out Tryd.underlying25 rfl (by kernel_rfl)) rfl ?_
      exact ⟨by rw [HN.out, HN2.out], ((hB.setCell (by simp; omega) _).setCell (by simp; omega) _).setCell (by simp; omega) _⟩
    have hnz : q2.num.natAbs ≠ 0 := fun h => h0 (Rat.num_eq_zero.mp (Int.natAbs_eq_zero.mp h))
    have HN := Lib.hid (show divV q1 q2 = QV (q1 / q2) from if_neg h0)
    have HN2 := Lib.hid (show divE q2 = 0 from if_neg h0)
    rw [decide_eq_false hnz] at he
    clear h0
    have M1 := Lib.hid (fun W => mul_any W (natS q1.num.natAbs) (natS q2.den) (by have := qs_size q1; unfold qs at this; omega) (by have := qt_size q2; unfold qt at this; omega))
    simp only [sval_natS] at M1
    have hlM1 := natL_len_mul q1.num.natAbs q2.den
    rw [show natS q1.num.natAbs = qs q1 from rfl, show natS q2.den = qt q2 from rfl] at M1
    have M2 := Lib.hid (fun W => mul_any W (natS q1.den) (natS q2.num.natAbs) (by have := qt_size q1; unfold qt at this; omega) (by have := qs_size q2; unfold qs at this; omega))
    simp only [sval_natS] at M2
    have hlM2 := natL_len_mul q1.den q2.num.natAbs
    rw [show natS q1.den = qt q1 from rfl, show natS q2.num.natAbs = qs q2 from rfl] at M2
    have MD := Lib.hid (fun W hW => made_any W (qn q1 != qn q2) (q1.num.natAbs * q2.den) (q1.den * q2.num.natAbs) (Nat.mul_ne_zero q1.den_nz hnz) (by rw [natS_size]; unfold qz at hz1 hz2; omega) (by rw [natS_size]; unfold qz at hz1 hz2; omega) (HTW.out W hW))
    have HQ := Lib.hid (show mkRat (sgn (qn q1 != qn q2) (q1.num.natAbs * q2.den)) (q1.den * q2.num.natAbs) = q1 / q2 by exact (div_mk q1 q2).symm)
    rw [HQ.out] at MD
    have HS := Lib.hid (show ∀ w', Below (w.heap.size + 1 + 1) wc w' → w'.cell? ⟨w.heap.size, 0, none⟩ = some (.bool (qn q1)) ∧ w'.cell? ⟨w.heap.size, 1, none⟩ = some (.string (qs q1)) ∧ w'.cell? ⟨w.heap.size, 2, none⟩ = some (.string (qt q1)) ∧ w'.cell? ⟨w.heap.size + 1, 0, none⟩ = some (.bool (qn q2)) ∧ w'.cell? ⟨w.heap.size + 1, 1, none⟩ = some (.string (qs q2)) ∧ w'.cell? ⟨w.heap.size + 1, 2, none⟩ = some (.string (qt q2)) from fun w' hb => by
      obtain ⟨h1, h2, h3, _⟩ := (kp.below hb (by omega)).facts
      obtain ⟨h4, h5, h6, _⟩ := (kq.below hb (by omega)).facts
      exact ⟨h1, h2, h3, h4, h5, h6⟩)
    unfold QV at MD
    obtain ⟨nQ, hnQ⟩ : ∃ x, x = qn (q1 / q2) := ⟨_, rfl⟩
    obtain ⟨sQ, hsQ⟩ : ∃ x, x = qs (q1 / q2) := ⟨_, rfl⟩
    obtain ⟨tQ, htQ⟩ : ∃ x, x = qt (q1 / q2) := ⟨_, rfl⟩
    have HV := Lib.hid (show Value.agg #[.bool nQ, .string sQ, .string tQ] = QV (q1 / q2) by rw [hnQ, hsQ, htQ]; rfl)
    rw [← hnQ, ← hsQ, ← htQ] at MD
    clear hnQ hsQ htQ
    clear HQ HF1 HF2 hlM1 hlM2 hz1 hz2 hq1 hq2 hs1 hs2 ht1 ht2
    obtain ⟨b1, hb1⟩ : ∃ x, x = qn q1 := ⟨_, rfl⟩
    obtain ⟨b2, hb2⟩ : ∃ x, x = qn q2 := ⟨_, rfl⟩
    obtain ⟨a1, ha1⟩ : ∃ x, x = qs q1 := ⟨_, rfl⟩
    obtain ⟨a2, ha2⟩ : ∃ x, x = qs q2 := ⟨_, rfl⟩
    obtain ⟨d1, hd1⟩ : ∃ x, x = qt q1 := ⟨_, rfl⟩
    obtain ⟨d2, hd2⟩ : ∃ x, x = qt q2 := ⟨_, rfl⟩
    obtain ⟨a, ha⟩ : ∃ x, x = natS (q1.num.natAbs * q2.den) := ⟨_, rfl⟩
    obtain ⟨d, hd⟩ : ∃ x, x = natS (q1.den * q2.num.natAbs) := ⟨_, rfl⟩
    rw [← hb1, ← hb2, ← ha, ← hd] at MD
    rw [← ha1, ← hd2, ← ha] at M1
    rw [← hd1, ← ha2, ← hd] at M2
    rw [← hb1, ← hb2, ← ha1, ← ha2, ← hd1, ← hd2] at HS
    rw [← ha2] at he cq
    clear hb1 hb2 ha1 ha2 hd1 hd2 ha hd kp kq hnz
    have hb0 := Lib.hid (Below.refl (w.heap.size + 1 + 1) wc)
    have hsz := hB.size
    have hlt := kr.lt
    have HB := Lib.hid hB
    clear hB
    go_wp2_with fail
    go_region_held3 (fun w' => w'.cell? ⟨w.heap.size, 0, none⟩ = some (.bool b1) ∧ w'.cell? ⟨w.heap.size, 1, none⟩ = some (.string a1) ∧ w'.cell? ⟨w.heap.size, 2, none⟩ = some (.string d1) ∧ w'.cell? ⟨w.heap.size + 1, 0, none⟩ = some (.bool b2) ∧ w'.cell? ⟨w.heap.size + 1, 1, none⟩ = some (.string a2) ∧ w'.cell? ⟨w.heap.size + 1, 2, none⟩ = some (.string d2))
      (with_reducible (first
        | exact HS.out _ (((hr5.setCell (p := ⟨w.heap.size + 1 + 1, 0, none⟩) (Nat.le_refl _) (.bool nQ)).setCell (p := ⟨w.heap.size + 1 + 1, 1, none⟩) (Nat.le_refl _) (.string sQ)).setCell (p := ⟨w.heap.size + 1 + 1, 2, none⟩) (Nat.le_refl _) (.string tQ))
        | exact HS.out _ hr5
        | exact HS.out _ hr4
        | exact HS.out _ hr3
        | exact HS.out _ hb0.out.drew))
      (first
        | (go_at_call_of 70 (Value.string a1); refine (M1.out _).mono ?_; rintro e w3 ⟨rfl, hb3⟩; have hr3 := hb0.out.drew.trans (hb3.mono (show w.heap.size + 1 + 1 ≤ wc.heap.size by omega)); have kr3 := kr.drew.below hb3 kr.lt)
        | (go_at_call_of 70 (Value.string d1); refine (M2.out _).mono ?_; rintro e w4 ⟨rfl, hb4⟩; have hr4 := hr3.trans (hb4.mono (by have := hr3.size; omega)); have kr4 := kr3.below hb4 kr3.lt)
        | (go_at_call 79; refine (MD.out _ (HB.out.trans (hr4.mono (by omega)))).mono ?_; rintro e w5 ⟨rfl, hb5⟩; have hr5 := hr4.trans (hb5.mono (by have := hr4.size; omega)); have kr5 := kr4.below hb5 kr4.lt; obtain ⟨_, _, _, f0, f1, f2⟩ := kr5.facts))
    rename_i hHeld
    clear hHeld
    have HZ := Lib.hid (kr5.put nQ sQ tQ)
    have hfin : Below w.heap.size w w5 := HB.out.trans (hr5.mono (by omega))
    clear f0 f1 f2 kr3 kr4 kr5 hr3 hr4 hr5 hb3 hb4 hb5 M1 M2 MD HS
    go_wp2
    refine bodyPost_ret (results_cell_two Tryd.results65 _ _ (w.heap.size + 1 + 1) 25 #[.bool nQ, .string sQ, .string tQ] (0, 0) _ (.int .i64 0) rfl rfl HZ.out Tryd.underlying25 rfl (by kernel_rfl)) rfl ?_
    exact ⟨by rw [HV.out, HN.out, HN2.out], ((hfin.setCell (by simp; omega) _).setCell (by simp; omega) _).setCell (by simp; omega) _⟩
end Go.Proofs.YtnnbnecpcppkdaaDoor
