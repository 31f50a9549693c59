/- rat.Cmp. Conditions: those typed. -/
import Derived.Test.YthmgcbpmfipfiaaDoorRatB
import Derived.Deep.RegionHeld3
namespace Go.Proofs.YthmgcbpmfipfiaaDoor
open Go.RowKit Go.Gy
set_option linter.unusedVariables false
/-- the order of two numbers -/
def cmpQ (a b : Rat) : Int := if a < b then -1 else if b < a then 1 else 0
theorem cmpQ_neg {a b : Rat} (ha : qn a = true) (hb : qn b = false) : cmpQ a b = -1 := by
  unfold cmpQ
  have h : a < b := by
    rw [Rat.lt_iff]
    have h1 : a.num < 0 := of_decide_eq_true ha
    have h2 : 0 ≤ b.num := by have := of_decide_eq_false hb; omega
    have h3 : a.num * (b.den : Int) < 0 := Int.mul_neg_of_neg_of_pos h1 (by have := b.den_pos; omega)
    have h4 : 0 ≤ b.num * (a.den : Int) := Int.mul_nonneg h2 (by omega)
    omega
  rw [if_pos h]
theorem cmpQ_pos {a b : Rat} (ha : qn a = false) (hb : qn b = true) : cmpQ a b = 1 := by
  unfold cmpQ
  have h : b < a := by
    rw [Rat.lt_iff]
    have h1 : b.num < 0 := of_decide_eq_true hb
    have h2 : 0 ≤ a.num := by have := of_decide_eq_false ha; omega
    have h3 : b.num * (a.den : Int) < 0 := Int.mul_neg_of_neg_of_pos h1 (by have := a.den_pos; omega)
    have h4 : 0 ≤ a.num * (b.den : Int) := Int.mul_nonneg h2 (by omega)
    omega
  rw [if_neg (by grind), if_pos h]
theorem cmpQ_same {a b : Rat} {k : Bool} (ha : qn a = k) (hb : qn b = k) : cmpQ a b = (if k = true then -1 else 1) * cmpN (a.num.natAbs * b.den) (b.num.natAbs * a.den) := by
  unfold cmpQ
  have h1 := qn_sgn a
  have h2 := qn_sgn b
  rw [ha] at h1
  rw [hb] at h2
  have e1 := Rat.lt_iff a b
  have e2 := Rat.lt_iff b a
  rw [show a.num * (b.den : Int) = sgn k (a.num.natAbs * b.den) by rw [← sgn_mul_nat, h1], show b.num * (a.den : Int) = sgn k (b.num.natAbs * a.den) by rw [← sgn_mul_nat, h2]] at e1 e2
  simp only [e1, e2]
  clear e1 e2
  generalize a.num.natAbs * b.den = x
  generalize b.num.natAbs * a.den = y
  unfold cmpN
  cases k
  · show _ = (1 : Int) * _
    rw [Int.one_mul, sgn_false, sgn_false]
    (repeat' split) <;> omega
  · show _ = (-1 : Int) * _
    rw [sgn_true, sgn_true]
    (repeat' split) <;> omega
set_option maxRecDepth 100000 in
set_option maxHeartbeats 4000000 in
theorem cmpq_any (w : World) (n1 : Bool) (s1 t1 : ByteArray) (n2 : Bool) (s2 t2 : ByteArray) (q1 q2 : Rat) (hq1 : fitQ n1 s1 t1 = q1) (hq2 : fitQ n2 s2 t2 = q2) (hs1 : s1.size ≤ 1099511627776) (ht1 : t1.size ≤ 1099511627776) (hs2 : s2.size ≤ 1099511627776) (ht2 : t2.size ≤ 1099511627776) (hT : TabW w) :
    Calls Tryd.prog 26 #[.agg #[.bool n1, .string s1, .string t1], .agg #[.bool n2, .string s2, .string t2]] w fun e w' => e = .returned (.int .i64 (cmpQ q1 q2)) ∧ Below w.heap.size w w' := by
  have HTW := Lib.hid (fun W hW => TabW.below (w' := W) hT hW)
  have HF1 := Lib.hid (fun W hW => fit_any W n1 s1 t1 (by omega) (by omega) (HTW.out W hW))
  have HF2 := Lib.hid (fun W hW => fit_any W n2 s2 t2 (by omega) (by omega) (HTW.out W hW))
  rw [hq1] at HF1
  rw [hq2] at HF2
  have hz1 : qz q1 ≤ 1099511627776 := by rw [← hq1]; have := qz_fit n1 s1 t1; omega
  have hz2 : qz q2 ≤ 1099511627776 := by rw [← hq2]; have := qz_fit n2 s2 t2; omega
  clear hT
  unfold QV at HF1 HF2
  obtain ⟨kp, kq, hB, _⟩ := R3.two w n1 s1 t1 n2 s2 t2
  have hp : w.heap.size ≤ w.heap.size := Nat.le_refl _
  have hq : w.heap.size ≤ w.heap.size + 1 := by omega
  have hpq : w.heap.size ≠ w.heap.size + 1 := by omega
  have hqp : w.heap.size + 1 ≠ w.heap.size := by omega
  go_enter Tryd.func26, Tryd.ntmps26
  go_upto_region 1 with (fail)
  go_cut [] (fun wx => R3 wx w.heap.size (qn q1) (qs q1) (qt q1) ∧ R3 wx (w.heap.size + 1) (qn q2) (qs q2) (qt q2) ∧ Below w.heap.size w wx)
  case first =>
    generalize (w.alloc _).alloc _ = w1 at kp kq hB ⊢
    refine wp_region_held_drew (S := fun _ => True) (by kernel_rfl) trivial (fun hHeld => ?_)
    clear hHeld
    replace kp := kp.drew
    replace kq := kq.drew
    replace hB := hB.drew
    generalize World.drew _ = W at kp kq hB ⊢
    refine wpAnyH_ready (rs := [0, 2]) (by kernel_rfl) (by simp) ?_
    refine AllReadyH.cons rfl (fun K hK => ?_) (AllReadyH.cons rfl (fun K hK => ?_) AllReadyH.nil)
    · rw [if_pos (by rfl)]
      obtain ⟨a0, a1, a2, _, _, _⟩ := kp.facts
      go_simp
      refine hK.out _ _ trivial (fun hHeld => ?_)
      clear hK K hHeld
      clear a0 a1 a2
      try simp only [Act.put, List.setIfInBounds_toArray, List.set_cons_zero, List.set_cons_succ]
      refine wpAnyH_ready (rs := [1, 2]) (by kernel_rfl) (by simp) ?_
      refine AllReadyH.cons rfl (fun K hK => ?_) (AllReadyH.cons rfl (fun K hK => ?_) AllReadyH.nil)
      · rw [if_pos (by rfl)]
        go_simp
        refine (HF1.out _ hB).mono ?_
        rintro e W' ⟨rfl, hb⟩
        replace kp := kp.below hb kp.lt
        replace kq := kq.below hb kq.lt
        replace hB := hB.trans (hb.mono hB.size)
        clear hb
        go_simp
        refine hK.out _ _ trivial (fun hHeld => ?_)
        clear hK K hHeld
        try simp only [Act.put, List.setIfInBounds_toArray, List.set_cons_zero, List.set_cons_succ]
        refine wpAnyH_ready (rs := [2]) (by kernel_rfl) (by simp) ?_
        refine AllReadyH.cons rfl (fun K hK => ?_) AllReadyH.nil
        · rw [if_pos (by rfl)]
          obtain ⟨a0, a1, a2, _, _, _⟩ := kq.facts
          go_simp
          refine hK.out _ _ trivial (fun hHeld => ?_)
          clear hK K hHeld
          clear a0 a1 a2
          try simp only [Act.put, List.setIfInBounds_toArray, List.set_cons_zero, List.set_cons_succ]
          refine wpAnyH_ready (rs := [3]) (by kernel_rfl) (by simp) ?_
          refine AllReadyH.cons rfl (fun K hK => ?_) AllReadyH.nil
          · rw [if_pos (by rfl)]
            go_simp
            refine (HF2.out _ hB).mono ?_
            rintro e W' ⟨rfl, hb⟩
            replace kp := kp.below hb kp.lt
            replace kq := kq.below hb kq.lt
            replace hB := hB.trans (hb.mono hB.size)
            clear hb
            go_simp
            refine hK.out _ _ trivial (fun hHeld => ?_)
            clear hK K hHeld
            try simp only [Act.put, List.setIfInBounds_toArray, List.set_cons_zero, List.set_cons_succ]
            refine wpAnyH_ready (rs := [4]) (by kernel_rfl) (by simp) ?_
            refine AllReadyH.cons rfl (fun K hK => ?_) AllReadyH.nil
            · rw [if_pos (by rfl)]
              obtain ⟨_, _, _, f0, f1, f2⟩ := kp.facts
              go_simp
              refine hK.out _ _ trivial (fun hHeld => ?_)
              clear hK K hHeld
              clear f0 f1 f2
              replace kq := kq.far3 hqp (.bool (qn q1)) (.string (qs q1)) (.string (qt q1))
              replace kp := kp.put (qn q1) (qs q1) (qt q1)
              replace hB := ((hB.setCell (p := ⟨w.heap.size, 0, none⟩) hp (.bool (qn q1))).setCell (p := ⟨w.heap.size, 1, none⟩) hp (.string (qs q1))).setCell (p := ⟨w.heap.size, 2, none⟩) hp (.string (qt q1))
              generalize ((World.setCell _ _ _).setCell _ _).setCell _ _ = W' at kp kq hB ⊢
              try simp only [Act.put, List.setIfInBounds_toArray, List.set_cons_zero, List.set_cons_succ]
              refine wpAnyH_ready (rs := [5]) (by kernel_rfl) (by simp) ?_
              refine AllReadyH.cons rfl (fun K hK => ?_) AllReadyH.nil
              · rw [if_pos (by rfl)]
                obtain ⟨_, _, _, f0, f1, f2⟩ := kq.facts
                go_simp
                refine hK.out _ _ trivial (fun hHeld => ?_)
                clear hK K hHeld
                clear f0 f1 f2
                replace kp := kp.far3 hpq (.bool (qn q2)) (.string (qs q2)) (.string (qt q2))
                replace kq := kq.put (qn q2) (qs q2) (qt q2)
                replace hB := ((hB.setCell (p := ⟨w.heap.size + 1, 0, none⟩) hq (.bool (qn q2))).setCell (p := ⟨w.heap.size + 1, 1, none⟩) hq (.string (qs q2))).setCell (p := ⟨w.heap.size + 1, 2, none⟩) hq (.string (qt q2))
                generalize ((World.setCell _ _ _).setCell _ _).setCell _ _ = W' at kp kq hB ⊢
                try simp only [Act.put, List.setIfInBounds_toArray, List.set_cons_zero, List.set_cons_succ]
                refine wpAnyH_done (by kernel_rfl) ?_ _
                go_wp2_with fail
                go_meet
                exact ⟨kp, kq, hB⟩
      · rw [if_pos (by rfl)]
        obtain ⟨a0, a1, a2, _, _, _⟩ := kq.facts
        go_simp
        refine hK.out _ _ trivial (fun hHeld => ?_)
        clear hK K hHeld
        clear a0 a1 a2
        try simp only [Act.put, List.setIfInBounds_toArray, List.set_cons_zero, List.set_cons_succ]
        refine wpAnyH_ready (rs := [1]) (by kernel_rfl) (by simp) ?_
        refine AllReadyH.cons rfl (fun K hK => ?_) AllReadyH.nil
        · rw [if_pos (by rfl)]
          go_simp
          refine (HF1.out _ hB).mono ?_
          rintro e W' ⟨rfl, hb⟩
          replace kp := kp.below hb kp.lt
          replace kq := kq.below hb kq.lt
          replace hB := hB.trans (hb.mono hB.size)
          clear hb
          go_simp
          refine hK.out _ _ trivial (fun hHeld => ?_)
          clear hK K hHeld
          try simp only [Act.put, List.setIfInBounds_toArray, List.set_cons_zero, List.set_cons_succ]
          refine wpAnyH_ready (rs := [3]) (by kernel_rfl) (by simp) ?_
          refine AllReadyH.cons rfl (fun K hK => ?_) AllReadyH.nil
          · rw [if_pos (by rfl)]
            go_simp
            refine (HF2.out _ hB).mono ?_
            rintro e W' ⟨rfl, hb⟩
            replace kp := kp.below hb kp.lt
            replace kq := kq.below hb kq.lt
            replace hB := hB.trans (hb.mono hB.size)
            clear hb
            go_simp
            refine hK.out _ _ trivial (fun hHeld => ?_)
            clear hK K hHeld
            try simp only [Act.put, List.setIfInBounds_toArray, List.set_cons_zero, List.set_cons_succ]
            refine wpAnyH_ready (rs := [4]) (by kernel_rfl) (by simp) ?_
            refine AllReadyH.cons rfl (fun K hK => ?_) AllReadyH.nil
            · rw [if_pos (by rfl)]
              obtain ⟨_, _, _, f0, f1, f2⟩ := kp.facts
              go_simp
              refine hK.out _ _ trivial (fun hHeld => ?_)
              clear hK K hHeld
              clear f0 f1 f2
              replace kq := kq.far3 hqp (.bool (qn q1)) (.string (qs q1)) (.string (qt q1))
              replace kp := kp.put (qn q1) (qs q1) (qt q1)
              replace hB := ((hB.setCell (p := ⟨w.heap.size, 0, none⟩) hp (.bool (qn q1))).setCell (p := ⟨w.heap.size, 1, none⟩) hp (.string (qs q1))).setCell (p := ⟨w.heap.size, 2, none⟩) hp (.string (qt q1))
              generalize ((World.setCell _ _ _).setCell _ _).setCell _ _ = W' at kp kq hB ⊢
              try simp only [Act.put, List.setIfInBounds_toArray, List.set_cons_zero, List.set_cons_succ]
              refine wpAnyH_ready (rs := [5]) (by kernel_rfl) (by simp) ?_
              refine AllReadyH.cons rfl (fun K hK => ?_) AllReadyH.nil
              · rw [if_pos (by rfl)]
                obtain ⟨_, _, _, f0, f1, f2⟩ := kq.facts
                go_simp
                refine hK.out _ _ trivial (fun hHeld => ?_)
                clear hK K hHeld
                clear f0 f1 f2
                replace kp := kp.far3 hpq (.bool (qn q2)) (.string (qs q2)) (.string (qt q2))
                replace kq := kq.put (qn q2) (qs q2) (qt q2)
                replace hB := ((hB.setCell (p := ⟨w.heap.size + 1, 0, none⟩) hq (.bool (qn q2))).setCell (p := ⟨w.heap.size + 1, 1, none⟩) hq (.string (qs q2))).setCell (p := ⟨w.heap.size + 1, 2, none⟩) hq (.string (qt q2))
                generalize ((World.setCell _ _ _).setCell _ _).setCell _ _ = W' at kp kq hB ⊢
                try simp only [Act.put, List.setIfInBounds_toArray, List.set_cons_zero, List.set_cons_succ]
                refine wpAnyH_done (by kernel_rfl) ?_ _
                go_wp2_with fail
                go_meet
                exact ⟨kp, kq, hB⟩
    · rw [if_pos (by rfl)]
      obtain ⟨a0, a1, a2, _, _, _⟩ := kq.facts
      go_simp
      refine hK.out _ _ trivial (fun hHeld => ?_)
      clear hK K hHeld
      clear a0 a1 a2
      try simp only [Act.put, List.setIfInBounds_toArray, List.set_cons_zero, List.set_cons_succ]
      refine wpAnyH_ready (rs := [0]) (by kernel_rfl) (by simp) ?_
      refine AllReadyH.cons rfl (fun K hK => ?_) AllReadyH.nil
      · rw [if_pos (by rfl)]
        obtain ⟨a0, a1, a2, _, _, _⟩ := kp.facts
        go_simp
        refine hK.out _ _ trivial (fun hHeld => ?_)
        clear hK K hHeld
        clear a0 a1 a2
        try simp only [Act.put, List.setIfInBounds_toArray, List.set_cons_zero, List.set_cons_succ]
        refine wpAnyH_ready (rs := [1]) (by kernel_rfl) (by simp) ?_
        refine AllReadyH.cons rfl (fun K hK => ?_) AllReadyH.nil
        · rw [if_pos (by rfl)]
          go_simp
          refine (HF1.out _ hB).mono ?_
          rintro e W' ⟨rfl, hb⟩
          replace kp := kp.below hb kp.lt
          replace kq := kq.below hb kq.lt
          replace hB := hB.trans (hb.mono hB.size)
          clear hb
          go_simp
          refine hK.out _ _ trivial (fun hHeld => ?_)
          clear hK K hHeld
          try simp only [Act.put, List.setIfInBounds_toArray, List.set_cons_zero, List.set_cons_succ]
          refine wpAnyH_ready (rs := [3]) (by kernel_rfl) (by simp) ?_
          refine AllReadyH.cons rfl (fun K hK => ?_) AllReadyH.nil
          · rw [if_pos (by rfl)]
            go_simp
            refine (HF2.out _ hB).mono ?_
            rintro e W' ⟨rfl, hb⟩
            replace kp := kp.below hb kp.lt
            replace kq := kq.below hb kq.lt
            replace hB := hB.trans (hb.mono hB.size)
            clear hb
            go_simp
            refine hK.out _ _ trivial (fun hHeld => ?_)
            clear hK K hHeld
            try simp only [Act.put, List.setIfInBounds_toArray, List.set_cons_zero, List.set_cons_succ]
            refine wpAnyH_ready (rs := [4]) (by kernel_rfl) (by simp) ?_
            refine AllReadyH.cons rfl (fun K hK => ?_) AllReadyH.nil
            · rw [if_pos (by rfl)]
              obtain ⟨_, _, _, f0, f1, f2⟩ := kp.facts
              go_simp
              refine hK.out _ _ trivial (fun hHeld => ?_)
              clear hK K hHeld
              clear f0 f1 f2
              replace kq := kq.far3 hqp (.bool (qn q1)) (.string (qs q1)) (.string (qt q1))
              replace kp := kp.put (qn q1) (qs q1) (qt q1)
              replace hB := ((hB.setCell (p := ⟨w.heap.size, 0, none⟩) hp (.bool (qn q1))).setCell (p := ⟨w.heap.size, 1, none⟩) hp (.string (qs q1))).setCell (p := ⟨w.heap.size, 2, none⟩) hp (.string (qt q1))
              generalize ((World.setCell _ _ _).setCell _ _).setCell _ _ = W' at kp kq hB ⊢
              try simp only [Act.put, List.setIfInBounds_toArray, List.set_cons_zero, List.set_cons_succ]
              refine wpAnyH_ready (rs := [5]) (by kernel_rfl) (by simp) ?_
              refine AllReadyH.cons rfl (fun K hK => ?_) AllReadyH.nil
              · rw [if_pos (by rfl)]
                obtain ⟨_, _, _, f0, f1, f2⟩ := kq.facts
                go_simp
                refine hK.out _ _ trivial (fun hHeld => ?_)
                clear hK K hHeld
                clear f0 f1 f2
                replace kp := kp.far3 hpq (.bool (qn q2)) (.string (qs q2)) (.string (qt q2))
                replace kq := kq.put (qn q2) (qs q2) (qt q2)
                replace hB := ((hB.setCell (p := ⟨w.heap.size + 1, 0, none⟩) hq (.bool (qn q2))).setCell (p := ⟨w.heap.size + 1, 1, none⟩) hq (.string (qs q2))).setCell (p := ⟨w.heap.size + 1, 2, none⟩) hq (.string (qt q2))
                generalize ((World.setCell _ _ _).setCell _ _).setCell _ _ = W' at kp kq hB ⊢
                try simp only [Act.put, List.setIfInBounds_toArray, List.set_cons_zero, List.set_cons_succ]
                refine wpAnyH_done (by kernel_rfl) ?_ _
                go_wp2_with fail
                go_meet
                exact ⟨kp, kq, hB⟩
  case rest =>
    clear kp kq hB
    obtain ⟨kp, kq, hB⟩ := hcut
    obtain ⟨c0, _⟩ := kp.facts
    obtain ⟨e0, _⟩ := kq.facts
    cases hn1 : qn q1
    · cases hn2 : qn q2
      · clear c0 e0
        have hsz := kq.lt
        have M1 := Lib.hid (fun W => mul_any W (natS q1.num.natAbs) (natS q2.den) (by have := qs_size q1; unfold qs at this; omega) (by have := qt_size q2; unfold qt at this; omega))
        simp only [sval_natS] at M1
        have hlM1 := natL_len_mul q1.num.natAbs q2.den
        rw [show natS q1.num.natAbs = qs q1 from rfl, show natS q2.den = qt q2 from rfl] at M1
        have M2 := Lib.hid (fun W => mul_any W (natS q2.num.natAbs) (natS q1.den) (by have := qs_size q2; unfold qs at this; omega) (by have := qt_size q1; unfold qt at this; omega))
        simp only [sval_natS] at M2
        have hlM2 := natL_len_mul q2.num.natAbs q1.den
        rw [show natS q2.num.natAbs = qs q2 from rfl, show natS q1.den = qt q1 from rfl] at M2
        have HS := Lib.hid (show ∀ w', Below (w.heap.size + 1 + 1) wc w' → w'.cell? ⟨w.heap.size, 0, none⟩ = some (.bool (qn q1)) ∧ w'.cell? ⟨w.heap.size, 1, none⟩ = some (.string (qs q1)) ∧ w'.cell? ⟨w.heap.size, 2, none⟩ = some (.string (qt q1)) ∧ w'.cell? ⟨w.heap.size + 1, 0, none⟩ = some (.bool (qn q2)) ∧ w'.cell? ⟨w.heap.size + 1, 1, none⟩ = some (.string (qs q2)) ∧ w'.cell? ⟨w.heap.size + 1, 2, none⟩ = some (.string (qt q2)) from fun w' hb => by
          obtain ⟨h1, h2, h3, _⟩ := (kp.below hb (by omega)).facts
          obtain ⟨h4, h5, h6, _⟩ := (kq.below hb (by omega)).facts
          exact ⟨h1, h2, h3, h4, h5, h6⟩)
        have C1 := Lib.hid (fun W => cmp_any W (natS (q1.num.natAbs * q2.den)) (natS (q2.num.natAbs * q1.den)) (by rw [natS_size]; unfold qz at hz1 hz2; omega) (by rw [natS_size]; unfold qz at hz1 hz2; omega))
        rw [sval_natS, sval_natS] at C1
        have HP := Lib.hid (cmpQ_same hn1 hn2)
        rw [hn1, hn2] at HS
        obtain ⟨a1, ha1⟩ : ∃ x, x = qs q1 := ⟨_, rfl⟩
        obtain ⟨a2, ha2⟩ : ∃ x, x = qs q2 := ⟨_, rfl⟩
        obtain ⟨d1, hd1⟩ : ∃ x, x = qt q1 := ⟨_, rfl⟩
        obtain ⟨d2, hd2⟩ : ∃ x, x = qt q2 := ⟨_, rfl⟩
        obtain ⟨x1, hx1⟩ : ∃ x, x = natS (q1.num.natAbs * q2.den) := ⟨_, rfl⟩
        obtain ⟨x2, hx2⟩ : ∃ x, x = natS (q2.num.natAbs * q1.den) := ⟨_, rfl⟩
        obtain ⟨cc, hcc⟩ : ∃ x, x = cmpN (q1.num.natAbs * q2.den) (q2.num.natAbs * q1.den) := ⟨_, rfl⟩
        rw [← hcc] at C1 HP
        have hcl : -1 ≤ cc ∧ cc ≤ 1 := by rw [hcc]; unfold cmpN; constructor <;> (repeat' split) <;> omega
        have hwr : IntKind.i64.wrap (-cc) = -cc := by rw [IntKind.wrap_i64]; omega
        rw [← hx1] at M1 C1
        rw [← hx2] at M2 C1
        rw [← ha1, ← hd2] at M1
        rw [← ha2, ← hd1] at M2
        rw [← ha1, ← ha2, ← hd1, ← hd2] at HS
        have HB := Lib.hid hB
        have hb0 := Lib.hid (Below.refl (w.heap.size + 1 + 1) wc)
        obtain ⟨c0, _, _, e0, _, _⟩ := HS.out _ hb0.out
        clear HF1 HF2 hlM1 hlM2 hz1 hz2 hq1 hq2 hs1 hs2 ht1 ht2 ha1 ha2 hd1 hd2 hx1 hx2 kp kq hB hn1 hn2 hcc hcl
        go_wp2_with fail
        clear c0 e0
        go_region_held3 (fun w' => w'.cell? ⟨w.heap.size, 0, none⟩ = some (.bool false) ∧ w'.cell? ⟨w.heap.size, 1, none⟩ = some (.string a1) ∧ w'.cell? ⟨w.heap.size, 2, none⟩ = some (.string d1) ∧ w'.cell? ⟨w.heap.size + 1, 0, none⟩ = some (.bool false) ∧ w'.cell? ⟨w.heap.size + 1, 1, none⟩ = some (.string a2) ∧ w'.cell? ⟨w.heap.size + 1, 2, none⟩ = some (.string d2))
          (with_reducible (first
            | exact HS.out _ hr4
            | exact HS.out _ hr3
            | exact HS.out _ hb0.out.drew))
          (first
            | (go_at_call_of 71 (Value.string a1); refine (M1.out _).mono ?_; rintro e w3 ⟨rfl, hb3⟩; have hr3 := hb0.out.drew.trans (hb3.mono (show w.heap.size + 1 + 1 ≤ wc.heap.size by omega)))
            | (go_at_call_of 71 (Value.string a2); refine (M2.out _).mono ?_; rintro e w4 ⟨rfl, hb4⟩; have hr4 := hr3.trans (hb4.mono (by have := hr3.size; omega)))
            | (go_at_call 75; refine (C1.out _).mono ?_; rintro e w5 ⟨rfl, rfl⟩))
        rename_i hHeld
        clear hHeld
        obtain ⟨c0, _, _, _, _, _⟩ := HS.out _ hr4
        have hfin : Below w.heap.size w w4 := HB.out.trans (hr4.mono (by omega))
        clear hb3 hb4 hr3 hr4 M1 M2 C1 HS
        go_wp2
        go_ret
        exact ⟨by rw [HP.out]; simp, hfin⟩
      · have HP := Lib.hid (cmpQ_pos hn1 hn2)
        rw [hn1] at c0
        rw [hn2] at e0
        clear HF1 HF2 kp kq hn1 hn2
        go_wp2
        go_ret
        exact ⟨by rw [HP.out]; rfl, hB⟩
    · cases hn2 : qn q2
      · have HP := Lib.hid (cmpQ_neg hn1 hn2)
        rw [hn1] at c0
        rw [hn2] at e0
        clear HF1 HF2 kp kq hn1 hn2
        go_wp2
        go_ret
        exact ⟨by rw [HP.out]; rfl, hB⟩
      · clear c0 e0
        have hsz := kq.lt
        have M1 := Lib.hid (fun W => mul_any W (natS q1.num.natAbs) (natS q2.den) (by have := qs_size q1; unfold qs at this; omega) (by have := qt_size q2; unfold qt at this; omega))
        simp only [sval_natS] at M1
        have hlM1 := natL_len_mul q1.num.natAbs q2.den
        rw [show natS q1.num.natAbs = qs q1 from rfl, show natS q2.den = qt q2 from rfl] at M1
        have M2 := Lib.hid (fun W => mul_any W (natS q2.num.natAbs) (natS q1.den) (by have := qs_size q2; unfold qs at this; omega) (by have := qt_size q1; unfold qt at this; omega))
        simp only [sval_natS] at M2
        have hlM2 := natL_len_mul q2.num.natAbs q1.den
        rw [show natS q2.num.natAbs = qs q2 from rfl, show natS q1.den = qt q1 from rfl] at M2
        have HS := Lib.hid (show ∀ w', Below (w.heap.size + 1 + 1) wc w' → w'.cell? ⟨w.heap.size, 0, none⟩ = some (.bool (qn q1)) ∧ w'.cell? ⟨w.heap.size, 1, none⟩ = some (.string (qs q1)) ∧ w'.cell? ⟨w.heap.size, 2, none⟩ = some (.string (qt q1)) ∧ w'.cell? ⟨w.heap.size + 1, 0, none⟩ = some (.bool (qn q2)) ∧ w'.cell? ⟨w.heap.size + 1, 1, none⟩ = some (.string (qs q2)) ∧ w'.cell? ⟨w.heap.size + 1, 2, none⟩ = some (.string (qt q2)) from fun w' hb => by
          obtain ⟨h1, h2, h3, _⟩ := (kp.below hb (by omega)).facts
          obtain ⟨h4, h5, h6, _⟩ := (kq.below hb (by omega)).facts
          exact ⟨h1, h2, h3, h4, h5, h6⟩)
        have C1 := Lib.hid (fun W => cmp_any W (natS (q1.num.natAbs * q2.den)) (natS (q2.num.natAbs * q1.den)) (by rw [natS_size]; unfold qz at hz1 hz2; omega) (by rw [natS_size]; unfold qz at hz1 hz2; omega))
        rw [sval_natS, sval_natS] at C1
        have HP := Lib.hid (cmpQ_same hn1 hn2)
        rw [hn1, hn2] at HS
        obtain ⟨a1, ha1⟩ : ∃ x, x = qs q1 := ⟨_, rfl⟩
        obtain ⟨a2, ha2⟩ : ∃ x, x = qs q2 := ⟨_, rfl⟩
        obtain ⟨d1, hd1⟩ : ∃ x, x = qt q1 := ⟨_, rfl⟩
        obtain ⟨d2, hd2⟩ : ∃ x, x = qt q2 := ⟨_, rfl⟩
        obtain ⟨x1, hx1⟩ : ∃ x, x = natS (q1.num.natAbs * q2.den) := ⟨_, rfl⟩
        obtain ⟨x2, hx2⟩ : ∃ x, x = natS (q2.num.natAbs * q1.den) := ⟨_, rfl⟩
        obtain ⟨cc, hcc⟩ : ∃ x, x = cmpN (q1.num.natAbs * q2.den) (q2.num.natAbs * q1.den) := ⟨_, rfl⟩
        rw [← hcc] at C1 HP
        have hcl : -1 ≤ cc ∧ cc ≤ 1 := by rw [hcc]; unfold cmpN; constructor <;> (repeat' split) <;> omega
        have hwr : IntKind.i64.wrap (-cc) = -cc := by rw [IntKind.wrap_i64]; omega
        rw [← hx1] at M1 C1
        rw [← hx2] at M2 C1
        rw [← ha1, ← hd2] at M1
        rw [← ha2, ← hd1] at M2
        rw [← ha1, ← ha2, ← hd1, ← hd2] at HS
        have HB := Lib.hid hB
        have hb0 := Lib.hid (Below.refl (w.heap.size + 1 + 1) wc)
        obtain ⟨c0, _, _, e0, _, _⟩ := HS.out _ hb0.out
        clear HF1 HF2 hlM1 hlM2 hz1 hz2 hq1 hq2 hs1 hs2 ht1 ht2 ha1 ha2 hd1 hd2 hx1 hx2 kp kq hB hn1 hn2 hcc hcl
        go_wp2_with fail
        clear c0 e0
        go_region_held3 (fun w' => w'.cell? ⟨w.heap.size, 0, none⟩ = some (.bool true) ∧ w'.cell? ⟨w.heap.size, 1, none⟩ = some (.string a1) ∧ w'.cell? ⟨w.heap.size, 2, none⟩ = some (.string d1) ∧ w'.cell? ⟨w.heap.size + 1, 0, none⟩ = some (.bool true) ∧ w'.cell? ⟨w.heap.size + 1, 1, none⟩ = some (.string a2) ∧ w'.cell? ⟨w.heap.size + 1, 2, none⟩ = some (.string d2))
          (with_reducible (first
            | exact HS.out _ hr4
            | exact HS.out _ hr3
            | exact HS.out _ hb0.out.drew))
          (first
            | (go_at_call_of 71 (Value.string a1); refine (M1.out _).mono ?_; rintro e w3 ⟨rfl, hb3⟩; have hr3 := hb0.out.drew.trans (hb3.mono (show w.heap.size + 1 + 1 ≤ wc.heap.size by omega)))
            | (go_at_call_of 71 (Value.string a2); refine (M2.out _).mono ?_; rintro e w4 ⟨rfl, hb4⟩; have hr4 := hr3.trans (hb4.mono (by have := hr3.size; omega)))
            | (go_at_call 75; refine (C1.out _).mono ?_; rintro e w5 ⟨rfl, rfl⟩))
        rename_i hHeld
        clear hHeld
        obtain ⟨c0, _, _, _, _, _⟩ := HS.out _ hr4
        have hfin : Below w.heap.size w w4 := HB.out.trans (hr4.mono (by omega))
        clear hb3 hb4 hr3 hr4 M1 M2 C1 HS
        go_wp2
        go_ret
        exact ⟨by rw [HP.out]; simp, hfin⟩
end Go.Proofs.YthmgcbpmfipfiaaDoor
