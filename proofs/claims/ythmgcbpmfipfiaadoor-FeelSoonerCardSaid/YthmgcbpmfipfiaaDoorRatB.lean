/- rat.made, rat.signed, rat.Of. Conditions: those typed. -/
import Derived.Test.YthmgcbpmfipfiaaDoorRatA
namespace Go.Proofs.YthmgcbpmfipfiaaDoor
open Go.RowKit Go.Gy
set_option linter.unusedVariables false
theorem QV_mk {n : Bool} {a b : Nat} (hb : b ≠ 0) (ha : a ≠ 0) : QV (mkRat (sgn n a) b) = .agg #[.bool n, .string (natS (a / Nat.gcd a b)), .string (natS (b / Nat.gcd a b))] := by
  unfold QV
  obtain ⟨h1, h2, h3⟩ := mk_parts (n := n) hb (fun h => absurd h ha)
  rw [h1, h2, h3]
/-- three blocks: two parameters' copies and the result -/
theorem R3.three (w : World) (n : Bool) (s t : ByteArray) (n2 : Bool) (s2 t2 : ByteArray) :
    R3 (((w.alloc (.cells #[.bool n, .string s, .string t] 27)).alloc (.cells #[.bool n2, .string s2, .string t2] 27)).alloc (.cells #[.bool false, .string { data := #[] }, .string { data := #[] }] 27)) w.heap.size n s t ∧
    R3 (((w.alloc (.cells #[.bool n, .string s, .string t] 27)).alloc (.cells #[.bool n2, .string s2, .string t2] 27)).alloc (.cells #[.bool false, .string { data := #[] }, .string { data := #[] }] 27)) (w.heap.size + 1) n2 s2 t2 ∧
    R3 (((w.alloc (.cells #[.bool n, .string s, .string t] 27)).alloc (.cells #[.bool n2, .string s2, .string t2] 27)).alloc (.cells #[.bool false, .string { data := #[] }, .string { data := #[] }] 27)) (w.heap.size + 2) false { data := #[] } { data := #[] } ∧
    Below w.heap.size w (((w.alloc (.cells #[.bool n, .string s, .string t] 27)).alloc (.cells #[.bool n2, .string s2, .string t2] 27)).alloc (.cells #[.bool false, .string { data := #[] }, .string { data := #[] }] 27)) := by
  obtain ⟨h1, h2, h3, h4⟩ := R3.two w n s t n2 s2 t2
  refine ⟨h1.alloc _, h2.alloc _, ?_, h3.alloc (by rw [h4]; omega) _⟩
  have := R3.new ((w.alloc (.cells #[.bool n, .string s, .string t] 27)).alloc (.cells #[.bool n2, .string s2, .string t2] 27)) false { data := #[] } { data := #[] }
  rw [h4] at this
  exact this
def FitR (w : World) (p q r : Nat) (q1 q2 : Rat) (wx : World) : Prop := R3 wx p (qn q1) (qs q1) (qt q1) ∧ R3 wx q (qn q2) (qs q2) (qt q2) ∧ R3 wx r false { data := #[] } { data := #[] } ∧ Below w.heap.size w wx
theorem natS_ne {a b : Nat} : natS a = natS b ↔ a = b := natS_inj'
set_option maxRecDepth 100000 in
set_option maxHeartbeats 4000000 in
theorem made_any (w : World) (n : Bool) (a b : Nat) (hb : b ≠ 0) (hs : (natS a).size ≤ 8796093022208) (ht : (natS b).size ≤ 8796093022208) (hT : TabW w) :
    Calls Tryd.prog 70 #[.bool n, .string (natS a), .string (natS b)] w fun e w' => e = .returned (QV (mkRat (sgn n a) b)) ∧ Below w.heap.size w w' := by
  have hbw : Below w.heap.size w (w.alloc (.cells #[.bool false, .string { data := #[] }, .string { data := #[] }] 27)) := (Below.refl w.heap.size w).alloc (Nat.le_refl _) _
  have k1 : R3 (w.alloc (.cells #[.bool false, .string { data := #[] }, .string { data := #[] }] 27)) w.heap.size false { data := #[] } { data := #[] } := R3.new w _ _ _
  have hz : (w.alloc (.cells #[.bool false, .string { data := #[] }, .string { data := #[] }] 27)).heap.size = w.heap.size + 1 := by simp
  have HTW := Lib.hid (fun W hW => TabW.below (w' := W) hT hW)
  clear hT
  have he := natS_empty a
  by_cases ha : a = 0
  · rw [decide_eq_true ha] at he
    have HZ0 := Lib.hid zero_any
    rw [ha, sgn_zero, Rat.zero_mkRat, QV_zero]
    rw [ha] at he
    obtain ⟨sa, hsa⟩ : ∃ s, s = natS 0 := ⟨_, rfl⟩
    obtain ⟨sb, hsb⟩ : ∃ s, s = natS b := ⟨_, rfl⟩
    rw [← hsa] at he ⊢
    rw [← hsb]
    clear hsa hsb hs ht ha
    go_enter Tryd.func70, Tryd.ntmps70
    go_wp2_with fail
    generalize w.alloc _ = w1 at k1 hbw hz ⊢
    refine (HZ0.out _).mono ?_
    rintro e w2 ⟨rfl, hb2⟩
    replace k1 := k1.below hb2 k1.lt
    obtain ⟨_, _, _, f0, f1, f2⟩ := k1.facts
    have Hb := Lib.hid (hbw.trans (hb2.mono (by omega)))
    have HZ := Lib.hid (k1.put false { data := #[] } { data := #[1] })
    clear hbw hb2 k1 HZ0
    go_wp2
    refine bodyPost_ret (results_cell_row Tryd.results70 _ _ w.heap.size 27 _ (0, 0) _ rfl HZ.out Tryd.underlying27 rfl (by kernel_rfl)) rfl ?_
    exact ⟨rfl, (((Hb.out).setCell (by simp) _).setCell (by simp) _).setCell (by simp) _⟩
  · rw [decide_eq_false ha] at he
    rw [QV_mk hb ha]
    have hb1 := one_iff (natS b)
    rw [natS_ne] at hb1
    by_cases h1 : b = 1
    · have h2 : (natS b).toList = [1] := hb1.mpr h1
      have hn : (!((natS b).toList == [1])) = false := by rw [h2]; rfl
      have HP := Lib.hid (show Value.agg #[.bool n, .string (natS a), .string (natS b)] = .agg #[.bool n, .string (natS (a / Nat.gcd a b)), .string (natS (b / Nat.gcd a b))] by rw [h1, Nat.gcd_one_right, Nat.div_one, Nat.div_one])
      rw [← HP.out]
      obtain ⟨sa, hsa⟩ : ∃ s, s = natS a := ⟨_, rfl⟩
      obtain ⟨sb, hsb⟩ : ∃ s, s = natS b := ⟨_, rfl⟩
      rw [← hsa] at he ⊢
      rw [← hsb] at h2 hn ⊢
      clear hsa hsb hs ht ha HP hb1 h1
      clear k1 hbw hz
      go_enter Tryd.func70, Tryd.ntmps70
      go_wp2
      refine bodyPost_ret (v := .agg #[.bool n, .string sa, .string sb]) (by simp [results, Tryd.results70, go_sem]) rfl ?_
      exact ⟨rfl, (Below.refl w.heap.size w).alloc (Nat.le_refl _) _⟩
    · have h2 : ¬ (natS b).toList = [1] := fun h => h1 (hb1.mp h)
      have hn : (!((natS b).toList == [1])) = true := by rw [Bool.not_eq_true', beq_eq_false_iff_ne]; exact h2
      have HG := Lib.hid (fun W hW => gcd_any W (natS a) (natS b) hs ht (HTW.out W hW).1 (HTW.out W hW).2)
      simp only [sval_natS] at HG
      obtain ⟨g, hg⟩ : ∃ g, g = Nat.gcd a b := ⟨_, rfl⟩
      rw [← hg] at HG ⊢
      have hg1 := one_iff (natS g)
      rw [natS_ne] at hg1
      have hgp : g ≠ 0 := by rw [hg]; exact Nat.pos_iff_ne_zero.mp (Nat.gcd_pos_of_pos_right a (Nat.pos_of_ne_zero hb))
      by_cases h3 : g = 1
      · have h4 : (natS g).toList = [1] := hg1.mpr h3
        have hm : (!((natS g).toList == [1])) = false := by rw [h4]; rfl
        rw [show Value.agg #[.bool n, .string (natS (a / g)), .string (natS (b / g))] = .agg #[.bool n, .string (natS a), .string (natS b)] by rw [h3, Nat.div_one, Nat.div_one]]
        obtain ⟨sa, hsa⟩ : ∃ s, s = natS a := ⟨_, rfl⟩
        obtain ⟨sb, hsb⟩ : ∃ s, s = natS b := ⟨_, rfl⟩
        obtain ⟨sg, hsg⟩ : ∃ s, s = natS g := ⟨_, rfl⟩
        rw [← hsa] at he HG ⊢
        rw [← hsb] at h2 hn HG ⊢
        rw [← hsg] at h4 hm HG
        clear hsa hsb hsg hs ht ha hb1 h1 hg1 h3 hg
        go_enter Tryd.func70, Tryd.ntmps70
        go_wp2_with fail
        generalize w.alloc _ = w1 at k1 hbw hz ⊢
        refine (HG.out _ hbw).mono ?_
        rintro e w2 ⟨rfl, hb2⟩
        replace k1 := k1.below hb2 k1.lt
        obtain ⟨_, _, _, f0, f1, f2⟩ := k1.facts
        have Hb := Lib.hid (hbw.trans (hb2.mono (by omega)))
        have HZ := Lib.hid (k1.put n sa sb)
        clear hbw hb2 k1 HG
        go_wp2
        refine bodyPost_ret (results_cell_row Tryd.results70 _ _ w.heap.size 27 _ (0, 0) _ rfl HZ.out Tryd.underlying27 rfl (by kernel_rfl)) rfl ?_
        exact ⟨rfl, (((Hb.out).setCell (by simp) _).setCell (by simp) _).setCell (by simp) _⟩
      · have h4 : ¬ (natS g).toList = [1] := fun h => h3 (hg1.mp h)
        have hm : (!((natS g).toList == [1])) = true := by rw [Bool.not_eq_true', beq_eq_false_iff_ne]; exact h4
        have hgl : g ≤ b := by rw [hg]; exact Nat.gcd_le_right _ (Nat.pos_of_ne_zero hb)
        have hzg := natS_mono hgl
        have HD : ∀ x, (natS x).size ≤ 8796093022208 → Hid (∀ W, Calls Tryd.prog 94 #[.string (natS x), .string (natS g)] W fun e w' => e = .returned (.tuple #[.string (natS (x / g)), .string (natS (x % g)), .int .i64 0]) ∧ Below W.heap.size W w') := fun x hx => Lib.hid (fun W => by
          have h := div_any W (natS x) (natS g) hx (by omega)
          rw [sval_natS, sval_natS] at h
          refine h.mono fun e w' h => ?_
          obtain ⟨h1, h2⟩ := h
          unfold divF at h1
          rw [if_neg hgp] at h1
          exact ⟨h1, h2⟩)
        have D1 := HD a hs
        have D2 := HD b ht
        obtain ⟨sa, hsa⟩ : ∃ s, s = natS a := ⟨_, rfl⟩
        obtain ⟨sb, hsb⟩ : ∃ s, s = natS b := ⟨_, rfl⟩
        obtain ⟨sg, hsg⟩ : ∃ s, s = natS g := ⟨_, rfl⟩
        obtain ⟨qa, hqa⟩ : ∃ s, s = natS (a / g) := ⟨_, rfl⟩
        obtain ⟨qb, hqb⟩ : ∃ s, s = natS (b / g) := ⟨_, rfl⟩
        obtain ⟨ra, hra⟩ : ∃ s, s = natS (a % g) := ⟨_, rfl⟩
        obtain ⟨rb, hrb⟩ : ∃ s, s = natS (b % g) := ⟨_, rfl⟩
        rw [← hsa] at he HG D1
        rw [← hsb] at h2 hn HG D2
        rw [← hsg] at h4 hm HG D1 D2
        rw [← hqa] at D1 ⊢
        rw [← hqb] at D2 ⊢
        rw [← hra] at D1
        rw [← hrb] at D2
        rw [← hsa, ← hsb]
        clear hsa hsb hsg hs ht ha hb1 h1 hg1 h3 hg hqa hqb hra hrb HD hzg hgl hgp
        go_enter Tryd.func70, Tryd.ntmps70
        go_wp2_with fail
        generalize w.alloc _ = w1 at k1 hbw hz ⊢
        refine (HG.out _ hbw).mono ?_
        rintro e w2 ⟨rfl, hb2⟩
        replace k1 := k1.below hb2 k1.lt
        have Hb := Lib.hid (hbw.trans (hb2.mono (by omega)))
        clear hbw hb2 HG
        go_wp2_with fail
        refine (D1.out _).mono ?_
        rintro e w3 ⟨rfl, hb2⟩
        replace k1 := k1.below hb2 k1.lt
        replace Hb := Lib.hid (Hb.out.trans (hb2.mono Hb.out.size))
        clear hb2 D1
        go_wp2_with fail
        refine (D2.out _).mono ?_
        rintro e w4 ⟨rfl, hb2⟩
        replace k1 := k1.below hb2 k1.lt
        replace Hb := Lib.hid (Hb.out.trans (hb2.mono Hb.out.size))
        obtain ⟨_, _, _, f0, f1, f2⟩ := k1.facts
        have HZ := Lib.hid (k1.put n qa qb)
        clear hb2 k1 D2
        go_wp2
        refine bodyPost_ret (results_cell_row Tryd.results70 _ _ w.heap.size 27 _ (0, 0) _ rfl HZ.out Tryd.underlying27 rfl (by kernel_rfl)) rfl ?_
        exact ⟨rfl, (((Hb.out).setCell (by simp) _).setCell (by simp) _).setCell (by simp) _⟩
set_option maxRecDepth 100000 in
set_option maxHeartbeats 4000000 in
theorem signed_any (w : World) (n m : Bool) (a b : Nat) (hs : (natS a).size ≤ 8796093022208) (ht : (natS b).size ≤ 8796093022208) :
    Calls Tryd.prog 69 #[.bool n, .string (natS a), .bool m, .string (natS b)] w fun e w' => ∃ k r, e = .returned (.tuple #[.bool k, .string (natS r)]) ∧ sgn k r = sgn n a + sgn m b ∧ Below w.heap.size w w' := by
  have HA := Lib.hid (add_any w (natS a) (natS b) hs ht)
  have HS := Lib.hid (sub_any w (natS a) (natS b) hs ht)
  have HS2 := Lib.hid (fun w => sub_any w (natS b) (natS a) ht hs)
  simp only [sval_natS] at HA HS HS2
  by_cases h : (n == m) = true
  · have e1 : sgn n (a + b) = sgn n a + sgn m b := by
      rw [beq_iff_eq] at h
      rw [h]
      cases m <;> simp [sgn]
      omega
    have HE := Lib.hid e1
    obtain ⟨sa, hsa⟩ : ∃ s, s = natS a := ⟨_, rfl⟩
    obtain ⟨sb, hsb⟩ : ∃ s, s = natS b := ⟨_, rfl⟩
    rw [← hsa, ← hsb] at HA ⊢
    clear HS HS2 hsa hsb hs ht e1
    go_enter Tryd.func69, Tryd.ntmps69
    go_wp2_with fail
    refine HA.out.mono ?_
    rintro e w1 ⟨rfl, hb⟩
    go_wp2
    refine bodyPost_ret (results_tmp2 rfl _ _ _) rfl ?_
    exact ⟨n, a + b, rfl, HE.out, hb⟩
  · have hnm : m = !n := by cases n <;> cases m <;> simp_all
    replace h := Bool.eq_false_iff.mpr h
    clear HA
    by_cases hlt : a < b
    · have e1 : subF a b = (0, 1) := by unfold subF; rw [if_pos hlt]
      have e2 : subF b a = (b - a, 0) := by unfold subF; rw [if_neg (by omega)]
      rw [e1] at HS
      rw [e2] at HS2
      have HE := Lib.hid (show sgn m (b - a) = sgn n a + sgn m b by
        rw [hnm]
        cases n <;> simp [sgn] <;> omega)
      obtain ⟨sa, hsa⟩ : ∃ s, s = natS a := ⟨_, rfl⟩
      obtain ⟨sb, hsb⟩ : ∃ s, s = natS b := ⟨_, rfl⟩
      rw [← hsa, ← hsb] at HS HS2 ⊢
      clear hsa hsb hs ht e1 e2 hnm hlt
      go_enter Tryd.func69, Tryd.ntmps69
      go_wp2_with fail
      refine HS.out.mono ?_
      rintro e w1 ⟨rfl, hb⟩
      go_wp2_with fail
      refine (HS2.out _).mono ?_
      rintro e w2 ⟨rfl, hb2⟩
      go_wp2
      refine bodyPost_ret (results_tmp2 rfl _ _ _) rfl ?_
      exact ⟨m, b - a, rfl, HE.out, hb.trans (hb2.mono hb.size)⟩
    · have e1 : subF a b = (a - b, 0) := by unfold subF; rw [if_neg hlt]
      rw [e1] at HS
      have HE := Lib.hid (show sgn n (a - b) = sgn n a + sgn m b by
        rw [hnm]
        cases n <;> simp [sgn] <;> omega)
      obtain ⟨sa, hsa⟩ : ∃ s, s = natS a := ⟨_, rfl⟩
      obtain ⟨sb, hsb⟩ : ∃ s, s = natS b := ⟨_, rfl⟩
      rw [← hsa, ← hsb] at HS ⊢
      clear hsa hsb hs ht e1 hnm hlt HS2
      go_enter Tryd.func69, Tryd.ntmps69
      go_wp2_with fail
      refine HS.out.mono ?_
      rintro e w1 ⟨rfl, hb⟩
      go_wp2
      refine bodyPost_ret (results_tmp2 rfl _ _ _) rfl ?_
      exact ⟨n, a - b, rfl, HE.out, hb⟩
set_option maxRecDepth 100000 in
set_option maxHeartbeats 4000000 in
theorem ofint_any (w : World) (n : Int) (hn : -9223372036854775808 ≤ n ∧ n ≤ 9223372036854775807) (hT : TabW w) :
    Calls Tryd.prog 25 #[.int .i64 n] w fun e w' => e = .returned (QV (n : Rat)) ∧ Below w.heap.size w w' := by
  have hbw : Below w.heap.size w (w.alloc (.cells #[.bool false, .string { data := #[] }, .string { data := #[] }] 27)) := (Below.refl w.heap.size w).alloc (Nat.le_refl _) _
  have k1 : R3 (w.alloc (.cells #[.bool false, .string { data := #[] }, .string { data := #[] }] 27)) w.heap.size false { data := #[] } { data := #[] } := R3.new w _ _ _
  have hz : (w.alloc (.cells #[.bool false, .string { data := #[] }, .string { data := #[] }] 27)).heap.size = w.heap.size + 1 := by simp
  have HTW := Lib.hid (fun W hW => TabW.below (w' := W) hT hW)
  have hlen : ∀ x : Nat, x < 18446744073709551617 → (natS x).size ≤ 8796093022208 := fun x hx => by
    rw [natS_size]
    have := (natL_len_le x 9).mpr (by omega)
    omega
  have HM := Lib.hid (fun (W : World) (k : Bool) (x : Nat) (hx : x < 18446744073709551617) (hW : Below w.heap.size w W) => made_any W k x 1 (by decide) (hlen x hx) (hlen 1 (by decide)) (HTW.out W hW))
  simp only [natS_one] at HM
  clear hT
  by_cases h0 : 0 ≤ n
  · have HO := Lib.hid (fun W => of_any W n hn)
    have HQ := Lib.hid (show QV (mkRat (sgn false n.toNat) 1) = QV (n : Rat) by
      rw [sgn_false, Int.toNat_of_nonneg h0, Rat.mkRat_one])
    rw [← HQ.out]
    have hx : n.toNat < 18446744073709551617 := by omega
    have hh : n ≥ 0 := h0
    replace HM := Lib.hid (fun W hW => HM.out W false n.toNat hx hW)
    obtain ⟨sa, hsa⟩ : ∃ s, s = natS n.toNat := ⟨_, rfl⟩
    obtain ⟨q, hq⟩ : ∃ s, s = mkRat (sgn false n.toNat) 1 := ⟨_, rfl⟩
    rw [← hsa] at HM HO
    rw [← hq] at HM ⊢
    clear hsa hlen hq HQ hx
    go_enter Tryd.func25, Tryd.ntmps25
    go_wp2_with fail
    generalize w.alloc _ = w1 at k1 hbw hz ⊢
    refine (HO.out _).mono ?_
    rintro e w2 ⟨rfl, hb2⟩
    replace k1 := k1.below hb2 k1.lt
    replace Hb := Lib.hid (hbw.trans (hb2.mono hbw.size))
    clear hb2 hbw
    go_wp2_with fail
    refine (HM.out _ Hb.out).mono ?_
    rintro e w3 ⟨rfl, hb2⟩
    replace k1 := k1.below hb2 k1.lt
    replace Hb := Lib.hid (Hb.out.trans (hb2.mono Hb.out.size))
    obtain ⟨_, _, _, f0, f1, f2⟩ := k1.facts
    have HZ := Lib.hid (k1.put (qn q) (qs q) (qt q))
    clear hb2 k1 HM HO
    unfold QV
    go_wp2
    refine bodyPost_ret (results_cell_row Tryd.results25 _ _ w.heap.size 27 _ (0, 0) _ rfl HZ.out Tryd.underlying27 rfl (by kernel_rfl)) rfl ?_
    exact ⟨rfl, (((Hb.out).setCell (by simp) _).setCell (by simp) _).setCell (by simp) _⟩
  · obtain ⟨x, rfl⟩ : ∃ x : Nat, n = -((x : Int) + 1) := ⟨(-n - 1).toNat, by omega⟩
    have HO := Lib.hid (fun W => of_any W (x : Int) (by omega))
    rw [Int.toNat_natCast] at HO
    have HA := Lib.hid (fun W => add_any W (natS x) (natS 1) (hlen x (by omega)) (hlen 1 (by decide)))
    rw [sval_natS, sval_natS, natS_one] at HA
    have HQ := Lib.hid (show QV (mkRat (sgn true (x + 1)) 1) = QV ((-((x : Int) + 1) : Int) : Rat) by
      rw [sgn_true, Rat.mkRat_one]; rfl)
    rw [← HQ.out]
    have hx : x + 1 < 18446744073709551617 := by omega
    have hh : ¬ (x : Int) + 1 ≤ 0 := by omega
    have hw1 : IntKind.i64.wrap (-((x : Int) + 1) + 1) = -(x : Int) := by rw [IntKind.wrap_i64]; omega
    have hw2 : IntKind.i64.wrap (x : Int) = x := by rw [IntKind.wrap_i64]; omega
    replace HM := Lib.hid (fun W hW => HM.out W true (x + 1) hx hW)
    obtain ⟨sa, hsa⟩ : ∃ s, s = natS x := ⟨_, rfl⟩
    obtain ⟨sc, hsc⟩ : ∃ s, s = natS (x + 1) := ⟨_, rfl⟩
    obtain ⟨q, hq⟩ : ∃ s, s = mkRat (sgn true (x + 1)) 1 := ⟨_, rfl⟩
    rw [← hsa] at HA HO
    rw [← hsc] at HM HA
    rw [← hq] at HM ⊢
    clear hsa hlen hq HQ hx hsc
    go_enter Tryd.func25, Tryd.ntmps25
    go_wp2_with fail
    generalize w.alloc _ = w1 at k1 hbw hz ⊢
    refine (HO.out _).mono ?_
    rintro e w2 ⟨rfl, hb2⟩
    replace k1 := k1.below hb2 k1.lt
    replace Hb := Lib.hid (hbw.trans (hb2.mono hbw.size))
    clear hb2 hbw
    go_wp2_with fail
    refine (HA.out _).mono ?_
    rintro e w3 ⟨rfl, hb2⟩
    replace k1 := k1.below hb2 k1.lt
    replace Hb := Lib.hid (Hb.out.trans (hb2.mono Hb.out.size))
    clear hb2
    go_wp2_with fail
    refine (HM.out _ Hb.out).mono ?_
    rintro e w4 ⟨rfl, hb2⟩
    replace k1 := k1.below hb2 k1.lt
    replace Hb := Lib.hid (Hb.out.trans (hb2.mono Hb.out.size))
    obtain ⟨_, _, _, f0, f1, f2⟩ := k1.facts
    have HZ := Lib.hid (k1.put (qn q) (qs q) (qt q))
    clear hb2 k1 HM HO HA
    unfold QV
    go_wp2
    refine bodyPost_ret (results_cell_row Tryd.results25 _ _ w.heap.size 27 _ (0, 0) _ rfl HZ.out Tryd.underlying27 rfl (by kernel_rfl)) rfl ?_
    exact ⟨rfl, (((Hb.out).setCell (by simp) _).setCell (by simp) _).setCell (by simp) _⟩
end Go.Proofs.YthmgcbpmfipfiaaDoor
