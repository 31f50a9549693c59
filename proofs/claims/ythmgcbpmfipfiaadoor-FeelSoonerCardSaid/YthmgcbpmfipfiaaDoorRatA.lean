/- rat.Good, rat.zero, rat.fit. Conditions: those typed. -/
import Derived.Test.YthmgcbpmfipfiaaDoorRatPlain
import Derived.Test.YthmgcbpmfipfiaaDoorGcdE
namespace Go.Proofs.YthmgcbpmfipfiaaDoor
open Go.RowKit Go.Gy
set_option linter.unusedVariables false
/-- the table's fact, and where the table lies -/
def TabW (w : World) : Prop := Tab w ∧ 1 < w.heap.size
theorem TabW.below {w w' : World} (h : TabW w) (hb : Below w.heap.size w w') : TabW w' := ⟨h.1.below hb h.2, Nat.lt_of_lt_of_le h.2 hb.size⟩
theorem str_beq (a b : ByteArray) : (a == b) = true ↔ a = b := by
  show (a.data == b.data) = true ↔ a = b
  rw [beq_iff_eq]
  exact ⟨fun h => ByteArray.ext h, fun h => h ▸ rfl⟩
theorem one_iff (a : ByteArray) : a.toList = [1] ↔ a = natS 1 := by
  rw [natS_one, ByteArray.toList_eq]
  constructor
  · intro h; exact ByteArray.ext (Array.toList_inj.mp h)
  · intro h; rw [h]
theorem canon_iff (s : ByteArray) : natS (sval s) = s ↔ ∀ h : 0 < s.size, s[0].toNat ≠ 0 := by
  constructor
  · intro h hp hz
    have h1 := str_cons s hp
    have h2 := natL_head (sval s) s[0] (s.extract 1 s.size).data.toList (by rw [← natS_list, h]; exact h1)
    exact h2 (UInt8.toNat_inj.mp hz)
  · intro h
    exact (natS_of fun c r e => by
      by_cases hp : 0 < s.size
      · rw [str_cons s hp] at e
        injection e with e1 e2
        intro hc
        rw [hc] at e1
        exact h hp (by rw [e1]; rfl)
      · have : s.data.toList.length = 0 := by simpa using hp
        rw [e] at this
        cases this).symm
theorem empty_iff (s : ByteArray) : s.toList.isEmpty = true ↔ ¬ 0 < s.size := by
  rw [ByteArray.toList_eq, List.isEmpty_iff]
  have : s.data.toList.length = s.size := by simp
  constructor
  · intro h; rw [h] at this; simp at this; omega
  · intro h; exact List.length_eq_zero_iff.mp (by omega)
theorem sval_pos {s : ByteArray} (h : 0 < s.size) (hc : natS (sval s) = s) : sval s ≠ 0 := by
  intro h0
  rw [h0, natS_zero] at hc
  rw [← hc] at h
  exact absurd h (by decide)
theorem sval_empty {s : ByteArray} (h : ¬ 0 < s.size) : sval s = 0 := by
  have : s = { data := #[] } := by
    apply ByteArray.ext
    apply Array.eq_empty_of_size_eq_zero
    show s.size = 0
    omega
  rw [this]
  rfl
set_option maxRecDepth 100000 in
set_option maxHeartbeats 4000000 in
theorem good_any (w : World) (n : Bool) (s t : ByteArray) (hs : s.size ≤ 8796093022208) (ht : t.size ≤ 8796093022208) (hT : TabW w) :
    Calls Tryd.prog 90 #[.agg #[.bool n, .string s, .string t]] w fun e w' => e = .returned (.bool (decide (GoodR n s t))) ∧ Below w.heap.size w w' := by
  by_cases h1 : 0 < t.size
  · have e1 : t.toList.isEmpty = false := by rw [Bool.eq_false_iff]; intro h; exact (empty_iff t).mp h h1
    by_cases h2 : t[0].toNat = 0
    · have b2 : ((t[0].toNat : Int) == 0) = true := by rw [h2]; rfl
      have HP := Lib.hid (show decide (GoodR n s t) = false from decide_eq_false fun h => (canon_iff t).mp h.2.1 h1 h2)
      rw [HP.out]
      clear h2
      go_enter Tryd.func90, Tryd.ntmps90
      go_wp2
      go_ret
      exact ⟨rfl, (Below.refl w.heap.size w).alloc (Nat.le_refl _) _⟩
    · have b2 : ((t[0].toNat : Int) == 0) = false := by simpa using h2
      have Ht := Lib.hid (show natS (sval t) = t from (canon_iff t).mpr fun _ => h2)
      have Ht0 := Lib.hid (sval_pos h1 Ht.out)
      clear h2
      by_cases h3 : 0 < s.size
      · have e3 : s.toList.isEmpty = false := by rw [Bool.eq_false_iff]; intro h; exact (empty_iff s).mp h h3
        by_cases h4 : s[0].toNat = 0
        · have b4 : ((s[0].toNat : Int) == 0) = true := by rw [h4]; rfl
          have HP := Lib.hid (show decide (GoodR n s t) = false from decide_eq_false fun h => (canon_iff s).mp h.1 h3 h4)
          rw [HP.out]
          clear h4
          go_enter Tryd.func90, Tryd.ntmps90
          go_wp2
          go_ret
          exact ⟨rfl, (Below.refl w.heap.size w).alloc (Nat.le_refl _) _⟩
        · have b4 : ((s[0].toNat : Int) == 0) = false := by simpa using h4
          have Hs := Lib.hid (show natS (sval s) = s from (canon_iff s).mpr fun _ => h4)
          have Hs0 := Lib.hid (sval_pos h3 Hs.out)
          clear h4
          by_cases h5 : ¬ t.toList = [1]
          · have HG := Lib.hid (fun W hW => gcd_any W s t hs ht (TabW.below hT hW).1 (TabW.below hT hW).2)
            have HP := Lib.hid (show (t.toList == [1] || (natS (Nat.gcd (sval s) (sval t))).toList == [1]) = decide (GoodR n s t) by
              rw [show (t.toList == [1]) = false from by rw [beq_eq_false_iff_ne]; exact h5, Bool.false_or, Bool.eq_iff_iff, beq_iff_eq, decide_eq_true_iff, one_iff, natS_inj']
              exact ⟨fun h => ⟨Hs.out, Ht.out, Ht0.out, fun h0 => absurd h0 Hs0.out, h⟩, fun h => h.2.2.2.2⟩)
            obtain ⟨G, hG⟩ : ∃ G, G = natS (Nat.gcd (sval s) (sval t)) := ⟨_, rfl⟩
            rw [← hG] at HG HP
            clear hG hT
            go_enter Tryd.func90, Tryd.ntmps90
            go_wp2_with fail
            refine (HG.out _ ((Below.refl w.heap.size w).alloc (Nat.le_refl _) _)).mono ?_
            rintro e w' ⟨rfl, hb⟩
            go_wp2
            go_ret
            exact ⟨congrArg (fun b => Ending.returned (.bool b)) HP.out, ((Below.refl w.heap.size w).alloc (Nat.le_refl _) _).trans (hb.mono ((Below.refl w.heap.size w).alloc (Nat.le_refl _) _).size)⟩
          · replace h5 : t.toList = [1] := Decidable.not_not.mp h5
            have HP := Lib.hid (show decide (GoodR n s t) = true from decide_eq_true ⟨Hs.out, Ht.out, Ht0.out, fun h0 => absurd h0 Hs0.out, by rw [one_iff] at h5; rw [h5, sval_natS, Nat.gcd_one_right]⟩)
            rw [HP.out]
            go_enter Tryd.func90, Tryd.ntmps90
            go_wp2
            go_ret
            exact ⟨rfl, (Below.refl w.heap.size w).alloc (Nat.le_refl _) _⟩
      · have e3 : s.toList.isEmpty = true := (empty_iff s).mpr h3
        have Hs0 := Lib.hid (sval_empty h3)
        have Hs := Lib.hid (show natS (sval s) = s by rw [canon_iff]; intro h; exact absurd h h3)
        clear h3
        cases n
        · by_cases h5 : ¬ t.toList = [1]
          · have HP := Lib.hid (show decide (GoodR false s t) = false from decide_eq_false fun h => by
              have h7 := h.2.2.2.2
              rw [Hs0.out, Nat.gcd_zero_left] at h7
              have h8 := h.2.1
              rw [h7, natS_one] at h8
              exact h5 ((one_iff t).mpr (by rw [natS_one]; exact h8.symm)))
            rw [HP.out]
            go_enter Tryd.func90, Tryd.ntmps90
            go_wp2
            go_ret
            exact ⟨rfl, (Below.refl w.heap.size w).alloc (Nat.le_refl _) _⟩
          · replace h5 : t.toList = [1] := Decidable.not_not.mp h5
            have HP := Lib.hid (show decide (GoodR false s t) = true from decide_eq_true ⟨Hs.out, Ht.out, Ht0.out, fun _ => rfl, by rw [one_iff] at h5; rw [h5, sval_natS, Nat.gcd_one_right]⟩)
            rw [HP.out]
            go_enter Tryd.func90, Tryd.ntmps90
            go_wp2
            go_ret
            exact ⟨rfl, (Below.refl w.heap.size w).alloc (Nat.le_refl _) _⟩
        · have HP := Lib.hid (show decide (GoodR true s t) = false from decide_eq_false fun h => by cases h.2.2.2.1 Hs0.out)
          rw [HP.out]
          go_enter Tryd.func90, Tryd.ntmps90
          go_wp2
          go_ret
          exact ⟨rfl, (Below.refl w.heap.size w).alloc (Nat.le_refl _) _⟩
  · have e1 : t.toList.isEmpty = true := (empty_iff t).mpr h1
    have HP := Lib.hid (show decide (GoodR n s t) = false from decide_eq_false fun h => h.2.2.1 (sval_empty h1))
    rw [HP.out]
    clear h1
    go_enter Tryd.func90, Tryd.ntmps90
    go_wp2
    go_ret
    exact ⟨rfl, (Below.refl w.heap.size w).alloc (Nat.le_refl _) _⟩
set_option maxRecDepth 100000 in
set_option maxHeartbeats 4000000 in
theorem zero_any (w : World) : Calls Tryd.prog 91 #[] w fun e w' => e = .returned (.agg #[.bool false, .string { data := #[] }, .string { data := #[1] }]) ∧ Below w.heap.size w w' := by
  go_enter Tryd.func91, Tryd.ntmps91
  go_wp2
  refine bodyPost_ret (v := .agg #[.bool false, .string { data := #[] }, .string { data := #[1] }]) (by simp [results, Tryd.results91, go_sem]) rfl ?_
  exact ⟨rfl, (Below.refl w.heap.size w).alloc (Nat.le_refl _) _⟩
/-- a rational number's value -/
def QV (q : Rat) : Value := .agg #[.bool (qn q), .string (qs q), .string (qt q)]
theorem QV_zero : QV 0 = .agg #[.bool false, .string { data := #[] }, .string { data := #[1] }] := by
  unfold QV
  rw [parts_zero.1, parts_zero.2.1, parts_zero.2.2, natS_zero, natS_one]
theorem QV_good {n : Bool} {s t : ByteArray} (h : GoodR n s t) : QV (fitQ n s t) = .agg #[.bool n, .string s, .string t] := by
  unfold QV
  rw [(good_parts h).1, (good_parts h).2.1, (good_parts h).2.2]
def R3 (w : World) (g : Nat) (n : Bool) (s t : ByteArray) : Prop := Blk w g 27 #[.bool n, .string s, .string t]
theorem R3.blk {w : World} {g : Nat} {n : Bool} {s t : ByteArray} (h : R3 w g n s t) : Blk w g 27 #[.bool n, .string s, .string t] := h
theorem R3.lt {w : World} {g : Nat} {n : Bool} {s t : ByteArray} (h : R3 w g n s t) : g < w.heap.size := h.blk.lt
theorem R3.alloc {w : World} {g : Nat} {n : Bool} {s t : ByteArray} (h : R3 w g n s t) (o : Obj) : R3 (w.alloc o) g n s t := h.blk.alloc o
theorem R3.drew {w : World} {g : Nat} {n : Bool} {s t : ByteArray} (h : R3 w g n s t) : R3 w.drew g n s t := h
theorem R3.drewN {w : World} {g : Nat} {n : Bool} {s t : ByteArray} (h : R3 w g n s t) (k : Nat) : R3 (w.drewN k) g n s t := h
theorem R3.below {w w' : World} {g B : Nat} {n : Bool} {s t : ByteArray} (h : R3 w g n s t) (hb : Below B w w') (hg : g < B) : R3 w' g n s t := h.blk.below hb hg
theorem R3.far {w : World} {g : Nat} {n : Bool} {s t : ByteArray} (h : R3 w g n s t) {p : Addr} (hp : g ≠ p.block) (u : Value) : R3 (w.setCell p u) g n s t := h.blk.far hp u
theorem R3.facts {w : World} {g : Nat} {n : Bool} {s t : ByteArray} (h : R3 w g n s t) : w.cell? ⟨g, 0, none⟩ = some (.bool n) ∧ w.cell? ⟨g, 1, none⟩ = some (.string s) ∧ w.cell? ⟨g, 2, none⟩ = some (.string t) ∧ w.frozen? ⟨g, 0, none⟩ = false ∧ w.frozen? ⟨g, 1, none⟩ = false ∧ w.frozen? ⟨g, 2, none⟩ = false :=
  ⟨h.blk.cell 0 _ rfl, h.blk.cell 1 _ rfl, h.blk.cell 2 _ rfl, h.blk.free 0, h.blk.free 1, h.blk.free 2⟩
theorem R3.put {w : World} {g : Nat} {n : Bool} {s t : ByteArray} (h : R3 w g n s t) (n' : Bool) (s' t' : ByteArray) : R3 (((w.setCell ⟨g, 0, none⟩ (.bool n')).setCell ⟨g, 1, none⟩ (.string s')).setCell ⟨g, 2, none⟩ (.string t')) g n' s' t' := ((h.blk.set 0 (.bool n')).set 1 (.string s')).set 2 (.string t')
theorem R3.far3 {w : World} {g b : Nat} {n : Bool} {s t : ByteArray} (h : R3 w g n s t) (hb : g ≠ b) (u0 u1 u2 : Value) : R3 (((w.setCell ⟨b, 0, none⟩ u0).setCell ⟨b, 1, none⟩ u1).setCell ⟨b, 2, none⟩ u2) g n s t := ((h.blk.far (p := ⟨b, 0, none⟩) hb u0).far (p := ⟨b, 1, none⟩) hb u1).far (p := ⟨b, 2, none⟩) hb u2
theorem R3.new (w : World) (n : Bool) (s t : ByteArray) : R3 (w.alloc (.cells #[.bool n, .string s, .string t] 27)) w.heap.size n s t := Blk.new w _ _
/-- two blocks: a parameter's copy and the result -/
theorem R3.two (w : World) (n : Bool) (s t : ByteArray) (n2 : Bool) (s2 t2 : ByteArray) :
    R3 ((w.alloc (.cells #[.bool n, .string s, .string t] 27)).alloc (.cells #[.bool n2, .string s2, .string t2] 27)) w.heap.size n s t ∧
    R3 ((w.alloc (.cells #[.bool n, .string s, .string t] 27)).alloc (.cells #[.bool n2, .string s2, .string t2] 27)) (w.heap.size + 1) n2 s2 t2 ∧
    Below w.heap.size w ((w.alloc (.cells #[.bool n, .string s, .string t] 27)).alloc (.cells #[.bool n2, .string s2, .string t2] 27)) ∧
    ((w.alloc (.cells #[.bool n, .string s, .string t] 27)).alloc (.cells #[.bool n2, .string s2, .string t2] 27)).heap.size = w.heap.size + 2 :=
  ⟨(R3.new w n s t).alloc _, by simpa using R3.new (w.alloc (.cells #[.bool n, .string s, .string t] 27)) n2 s2 t2, ((Below.refl w.heap.size w).alloc (Nat.le_refl _) _).alloc (by simp) _, by simp⟩
set_option maxRecDepth 100000 in
set_option maxHeartbeats 4000000 in
theorem fit_any (w : World) (n : Bool) (s t : ByteArray) (hs : s.size ≤ 8796093022208) (ht : t.size ≤ 8796093022208) (hT : TabW w) :
    Calls Tryd.prog 68 #[.agg #[.bool n, .string s, .string t]] w fun e w' => e = .returned (QV (fitQ n s t)) ∧ Below w.heap.size w w' := by
  have HG := Lib.hid (fun W hW => good_any W n s t hs ht (TabW.below hT hW))
  obtain ⟨k0, k1, hb, hz⟩ := R3.two w n s t false { data := #[] } { data := #[] }
  by_cases h : GoodR n s t
  · rw [QV_good h]
    rw [decide_eq_true h] at HG
    clear h hT
    go_enter Tryd.func68, Tryd.ntmps68
    go_wp2_with fail
    generalize (w.alloc _).alloc _ = w1 at k0 k1 hb hz ⊢
    refine (HG.out _ hb).mono ?_
    rintro e w2 ⟨rfl, hb2⟩
    replace k0 := k0.below hb2 (by omega)
    replace k1 := k1.below hb2 (by omega)
    obtain ⟨a0, a1, a2, _, _, _⟩ := k0.facts
    obtain ⟨_, _, _, f0, f1, f2⟩ := k1.facts
    have Hb := Lib.hid (hb.trans (hb2.mono (by omega)))
    have HZ := Lib.hid (k1.put n s t)
    clear hb hb2 HG k0 k1
    go_wp2
    refine bodyPost_ret (results_cell_row Tryd.results68 _ _ (w.heap.size + 1) 27 _ (0, 0) _ rfl HZ.out Tryd.underlying27 rfl (by kernel_rfl)) rfl ?_
    exact ⟨rfl, (((Hb.out).setCell (by simp) _).setCell (by simp) _).setCell (by simp) _⟩
  · rw [fit_bad h, QV_zero]
    rw [decide_eq_false h] at HG
    have HZ0 := Lib.hid zero_any
    clear h hT
    go_enter Tryd.func68, Tryd.ntmps68
    go_wp2_with fail
    generalize (w.alloc _).alloc _ = w1 at k0 k1 hb hz ⊢
    refine (HG.out _ hb).mono ?_
    rintro e w2 ⟨rfl, hb2⟩
    replace k1 := k1.below hb2 (by omega)
    go_wp2_with fail
    refine (HZ0.out _).mono ?_
    rintro e w3 ⟨rfl, hb3⟩
    replace k1 := k1.below hb3 k1.lt
    obtain ⟨_, _, _, f0, f1, f2⟩ := k1.facts
    have Hb := Lib.hid ((hb.trans (hb2.mono (by omega))).trans (hb3.mono (by have := hb2.size; omega)))
    have HZ := Lib.hid (k1.put false { data := #[] } { data := #[1] })
    clear hb hb2 hb3 HG k0 k1 HZ0
    go_wp2
    refine bodyPost_ret (results_cell_row Tryd.results68 _ _ (w.heap.size + 1) 27 _ (0, 0) _ rfl HZ.out Tryd.underlying27 rfl (by kernel_rfl)) rfl ?_
    exact ⟨rfl, (((Hb.out).setCell (by simp) _).setCell (by simp) _).setCell (by simp) _⟩
end Go.Proofs.YthmgcbpmfipfiaaDoor
