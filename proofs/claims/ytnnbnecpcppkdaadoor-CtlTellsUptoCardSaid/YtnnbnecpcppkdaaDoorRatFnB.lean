/- rat.Add. rat.Cmp. rat.Neg, rat.Abs, rat.Sign. rat.Min, rat.Max, rat.Sub. rat.Make. rat.whole, rat.Floor. Conditions: those typed. -/
import Derived.Test.YtnnbnecpcppkdaaDoorRatFnA
import Derived.Deep.RegionHeld3
namespace Go.Proofs.YtnnbnecpcppkdaaDoor
open Go.RowKit Go.Gy
set_option linter.unusedVariables false
theorem mkRat_same (q1 q2 : Rat) (h : q1.den = q2.den) : mkRat (q1.num + q2.num) q1.den = q1 + q2 := by
  rw [Rat.add_def', ← h, ← Int.add_mul, Rat.mkRat_mul_right q1.den_nz]
theorem sgn_size {k : Bool} {r B : Nat} {x y : Int} (h : sgn k r = x + y) (hx : (natL x.natAbs).length ≤ B) (hy : (natL y.natAbs).length ≤ B) : (natS r).size ≤ B + 1 := by
  rw [natS_size]
  have h1 : r ≤ x.natAbs + y.natAbs := by
    have := congrArg Int.natAbs h
    rw [sgn_abs] at this
    rw [this]
    exact Int.natAbs_add_le _ _
  have h2 := natL_len_mono h1
  have h3 := natL_len_add x.natAbs y.natAbs
  omega
theorem toList_ne {a b : ByteArray} (h : a ≠ b) : ¬ a.toList = b.toList := by
  intro h1
  rw [ByteArray.toList_eq, ByteArray.toList_eq] at h1
  exact h (ByteArray.ext (Array.toList_inj.mp h1))
set_option maxRecDepth 100000 in
set_option maxHeartbeats 4000000 in
theorem addq_any (w : World) (n1 : Bool) (s1 t1 : ByteArray) (n2 : Bool) (s2 t2 : ByteArray) (q1 q2 : Rat) (hq1 : fitQ n1 s1 t1 = q1) (hq2 : fitQ n2 s2 t2 = q2) (hs1 : s1.size ≤ 1099511627776) (ht1 : t1.size ≤ 1099511627776) (hs2 : s2.size ≤ 1099511627776) (ht2 : t2.size ≤ 1099511627776) (hT : TabW w) :
    Calls Tryd.prog 43 #[.agg #[.bool n1, .string s1, .string t1], .agg #[.bool n2, .string s2, .string t2]] w fun e w' => e = .returned (QV (q1 + q2)) ∧ Below w.heap.size w w' := by
  have HTW := Lib.hid (fun W hW => TabW.below (w' := W) hT hW)
  have HF1 := Lib.hid (fun W hW => fit_any W n1 s1 t1 (by omega) (by omega) (HTW.out W hW))
  have HF2 := Lib.hid (fun W hW => fit_any W n2 s2 t2 (by omega) (by omega) (HTW.out W hW))
  rw [hq1] at HF1
  rw [hq2] at HF2
  have hz1 : qz q1 ≤ 1099511627776 := by rw [← hq1]; have := qz_fit n1 s1 t1; omega
  have hz2 : qz q2 ≤ 1099511627776 := by rw [← hq2]; have := qz_fit n2 s2 t2; omega
  clear hT
  unfold QV at HF1 HF2
  obtain ⟨kp, kq, kr, hB⟩ := R3.three w n1 s1 t1 n2 s2 t2
  have hp : w.heap.size ≤ w.heap.size := Nat.le_refl _
  have hq : w.heap.size ≤ w.heap.size + 1 := by omega
  have hpq : w.heap.size ≠ w.heap.size + 1 := by omega
  have hqp : w.heap.size + 1 ≠ w.heap.size := by omega
  have hrp : w.heap.size + 1 + 1 ≠ w.heap.size := by omega
  have hrq : w.heap.size + 1 + 1 ≠ w.heap.size + 1 := by omega
  go_enter Tryd.func43, Tryd.ntmps43
  go_upto_region 1 with (fail)
  go_cut [] (fun wx => FitR w w.heap.size (w.heap.size + 1) (w.heap.size + 1 + 1) q1 q2 wx)
  case first =>
    generalize ((w.alloc _).alloc _).alloc _ = w1 at kp kq kr hB ⊢
    refine wp_region_held_drew (S := fun _ => True) (by kernel_rfl) trivial (fun hHeld => ?_)
    clear hHeld
    replace kp := kp.drew
    replace kq := kq.drew
    replace kr := kr.drew
    replace hB := hB.drew
    generalize World.drew _ = W at kp kq kr hB ⊢
    refine wpAnyH_ready (rs := [0, 2]) (by kernel_rfl) (by simp) ?_
    refine AllReadyH.cons rfl (fun K hK => ?_) (AllReadyH.cons rfl (fun K hK => ?_) AllReadyH.nil)
    · rw [if_pos (by rfl)]
      obtain ⟨a0, a1, a2, _, _, _⟩ := kp.facts
      go_simp
      refine hK.out _ _ trivial (fun hHeld => ?_)
      clear hK K hHeld
      clear a0 a1 a2
      try simp only [Act.put, List.setIfInBounds_toArray, List.set_cons_zero, List.set_cons_succ]
      refine wpAnyH_ready (rs := [1, 2]) (by kernel_rfl) (by simp) ?_
      refine AllReadyH.cons rfl (fun K hK => ?_) (AllReadyH.cons rfl (fun K hK => ?_) AllReadyH.nil)
      · rw [if_pos (by rfl)]
        go_simp
        refine (HF1.out _ hB).mono ?_
        rintro e W' ⟨rfl, hb⟩
        replace kp := kp.below hb kp.lt
        replace kq := kq.below hb kq.lt
        replace kr := kr.below hb kr.lt
        replace hB := hB.trans (hb.mono hB.size)
        clear hb
        go_simp
        refine hK.out _ _ trivial (fun hHeld => ?_)
        clear hK K hHeld
        try simp only [Act.put, List.setIfInBounds_toArray, List.set_cons_zero, List.set_cons_succ]
        refine wpAnyH_ready (rs := [2]) (by kernel_rfl) (by simp) ?_
        refine AllReadyH.cons rfl (fun K hK => ?_) AllReadyH.nil
        · rw [if_pos (by rfl)]
          obtain ⟨a0, a1, a2, _, _, _⟩ := kq.facts
          go_simp
          refine hK.out _ _ trivial (fun hHeld => ?_)
          clear hK K hHeld
          clear a0 a1 a2
          try simp only [Act.put, List.setIfInBounds_toArray, List.set_cons_zero, List.set_cons_succ]
          refine wpAnyH_ready (rs := [3]) (by kernel_rfl) (by simp) ?_
          refine AllReadyH.cons rfl (fun K hK => ?_) AllReadyH.nil
          · rw [if_pos (by rfl)]
            go_simp
            refine (HF2.out _ hB).mono ?_
            rintro e W' ⟨rfl, hb⟩
            replace kp := kp.below hb kp.lt
            replace kq := kq.below hb kq.lt
            replace kr := kr.below hb kr.lt
            replace hB := hB.trans (hb.mono hB.size)
            clear hb
            go_simp
            refine hK.out _ _ trivial (fun hHeld => ?_)
            clear hK K hHeld
            try simp only [Act.put, List.setIfInBounds_toArray, List.set_cons_zero, List.set_cons_succ]
            refine wpAnyH_ready (rs := [4]) (by kernel_rfl) (by simp) ?_
            refine AllReadyH.cons rfl (fun K hK => ?_) AllReadyH.nil
            · rw [if_pos (by rfl)]
              obtain ⟨_, _, _, f0, f1, f2⟩ := kp.facts
              go_simp
              refine hK.out _ _ trivial (fun hHeld => ?_)
              clear hK K hHeld
              clear f0 f1 f2
              replace kq := kq.far3 hqp (.bool (qn q1)) (.string (qs q1)) (.string (qt q1))
              replace kr := kr.far3 hrp (.bool (qn q1)) (.string (qs q1)) (.string (qt q1))
              replace kp := kp.put (qn q1) (qs q1) (qt q1)
              replace hB := ((hB.setCell (p := ⟨w.heap.size, 0, none⟩) hp (.bool (qn q1))).setCell (p := ⟨w.heap.size, 1, none⟩) hp (.string (qs q1))).setCell (p := ⟨w.heap.size, 2, none⟩) hp (.string (qt q1))
              generalize ((World.setCell _ _ _).setCell _ _).setCell _ _ = W' at kp kq kr hB ⊢
              try simp only [Act.put, List.setIfInBounds_toArray, List.set_cons_zero, List.set_cons_succ]
              refine wpAnyH_ready (rs := [5]) (by kernel_rfl) (by simp) ?_
              refine AllReadyH.cons rfl (fun K hK => ?_) AllReadyH.nil
              · rw [if_pos (by rfl)]
                obtain ⟨_, _, _, f0, f1, f2⟩ := kq.facts
                go_simp
                refine hK.out _ _ trivial (fun hHeld => ?_)
                clear hK K hHeld
                clear f0 f1 f2
                replace kp := kp.far3 hpq (.bool (qn q2)) (.string (qs q2)) (.string (qt q2))
                replace kr := kr.far3 hrq (.bool (qn q2)) (.string (qs q2)) (.string (qt q2))
                replace kq := kq.put (qn q2) (qs q2) (qt q2)
                replace hB := ((hB.setCell (p := ⟨w.heap.size + 1, 0, none⟩) hq (.bool (qn q2))).setCell (p := ⟨w.heap.size + 1, 1, none⟩) hq (.string (qs q2))).setCell (p := ⟨w.heap.size + 1, 2, none⟩) hq (.string (qt q2))
                generalize ((World.setCell _ _ _).setCell _ _).setCell _ _ = W' at kp kq kr hB ⊢
                try simp only [Act.put, List.setIfInBounds_toArray, List.set_cons_zero, List.set_cons_succ]
                refine wpAnyH_done (by kernel_rfl) ?_ _
                go_wp2_with fail
                go_meet
                exact ⟨kp, kq, kr, hB⟩
      · rw [if_pos (by rfl)]
        obtain ⟨a0, a1, a2, _, _, _⟩ := kq.facts
        go_simp
        refine hK.out _ _ trivial (fun hHeld => ?_)
        clear hK K hHeld
        clear a0 a1 a2
        try simp only [Act.put, List.setIfInBounds_toArray, List.set_cons_zero, List.set_cons_succ]
        refine wpAnyH_ready (rs := [1]) (by kernel_rfl) (by simp) ?_
        refine AllReadyH.cons rfl (fun K hK => ?_) AllReadyH.nil
        · rw [if_pos (by rfl)]
          go_simp
          refine (HF1.out _ hB).mono ?_
          rintro e W' ⟨rfl, hb⟩
          replace kp := kp.below hb kp.lt
          replace kq := kq.below hb kq.lt
          replace kr := kr.below hb kr.lt
          replace hB := hB.trans (hb.mono hB.size)
          clear hb
          go_simp
          refine hK.out _ _ trivial (fun hHeld => ?_)
          clear hK K hHeld
          try simp only [Act.put, List.setIfInBounds_toArray, List.set_cons_zero, List.set_cons_succ]
          refine wpAnyH_ready (rs := [3]) (by kernel_rfl) (by simp) ?_
          refine AllReadyH.cons rfl (fun K hK => ?_) AllReadyH.nil
          · rw [if_pos (by rfl)]
            go_simp
            refine (HF2.out _ hB).mono ?_
            rintro e W' ⟨rfl, hb⟩
            replace kp := kp.below hb kp.lt
            replace kq := kq.below hb kq.lt
            replace kr := kr.below hb kr.lt
            replace hB := hB.trans (hb.mono hB.size)
            clear hb
            go_simp
            refine hK.out _ _ trivial (fun hHeld => ?_)
            clear hK K hHeld
            try simp only [Act.put, List.setIfInBounds_toArray, List.set_cons_zero, List.set_cons_succ]
            refine wpAnyH_ready (rs := [4]) (by kernel_rfl) (by simp) ?_
            refine AllReadyH.cons rfl (fun K hK => ?_) AllReadyH.nil
            · rw [if_pos (by rfl)]
              obtain ⟨_, _, _, f0, f1, f2⟩ := kp.facts
              go_simp
              refine hK.out _ _ trivial (fun hHeld => ?_)
              clear hK K hHeld
              clear f0 f1 f2
              replace kq := kq.far3 hqp (.bool (qn q1)) (.string (qs q1)) (.string (qt q1))
              replace kr := kr.far3 hrp (.bool (qn q1)) (.string (qs q1)) (.string (qt q1))
              replace kp := kp.put (qn q1) (qs q1) (qt q1)
              replace hB := ((hB.setCell (p := ⟨w.heap.size, 0, none⟩) hp (.bool (qn q1))).setCell (p := ⟨w.heap.size, 1, none⟩) hp (.string (qs q1))).setCell (p := ⟨w.heap.size, 2, none⟩) hp (.string (qt q1))
              generalize ((World.setCell _ _ _).setCell _ _).setCell _ _ = W' at kp kq kr hB ⊢
              try simp only [Act.put, List.setIfInBounds_toArray, List.set_cons_zero, List.set_cons_succ]
              refine wpAnyH_ready (rs := [5]) (by kernel_rfl) (by simp) ?_
              refine AllReadyH.cons rfl (fun K hK => ?_) AllReadyH.nil
              · rw [if_pos (by rfl)]
                obtain ⟨_, _, _, f0, f1, f2⟩ := kq.facts
                go_simp
                refine hK.out _ _ trivial (fun hHeld => ?_)
                clear hK K hHeld
                clear f0 f1 f2
                replace kp := kp.far3 hpq (.bool (qn q2)) (.string (qs q2)) (.string (qt q2))
                replace kr := kr.far3 hrq (.bool (qn q2)) (.string (qs q2)) (.string (qt q2))
                replace kq := kq.put (qn q2) (qs q2) (qt q2)
                replace hB := ((hB.setCell (p := ⟨w.heap.size + 1, 0, none⟩) hq (.bool (qn q2))).setCell (p := ⟨w.heap.size + 1, 1, none⟩) hq (.string (qs q2))).setCell (p := ⟨w.heap.size + 1, 2, none⟩) hq (.string (qt q2))
                generalize ((World.setCell _ _ _).setCell _ _).setCell _ _ = W' at kp kq kr hB ⊢
                try simp only [Act.put, List.setIfInBounds_toArray, List.set_cons_zero, List.set_cons_succ]
                refine wpAnyH_done (by kernel_rfl) ?_ _
                go_wp2_with fail
                go_meet
                exact ⟨kp, kq, kr, hB⟩
    · rw [if_pos (by rfl)]
      obtain ⟨a0, a1, a2, _, _, _⟩ := kq.facts
      go_simp
      refine hK.out _ _ trivial (fun hHeld => ?_)
      clear hK K hHeld
      clear a0 a1 a2
      try simp only [Act.put, List.setIfInBounds_toArray, List.set_cons_zero, List.set_cons_succ]
      refine wpAnyH_ready (rs := [0]) (by kernel_rfl) (by simp) ?_
      refine AllReadyH.cons rfl (fun K hK => ?_) AllReadyH.nil
      · rw [if_pos (by rfl)]
        obtain ⟨a0, a1, a2, _, _, _⟩ := kp.facts
        go_simp
        refine hK.out _ _ trivial (fun hHeld => ?_)
        clear hK K hHeld
        clear a0 a1 a2
        try simp only [Act.put, List.setIfInBounds_toArray, List.set_cons_zero, List.set_cons_succ]
        refine wpAnyH_ready (rs := [1]) (by kernel_rfl) (by simp) ?_
        refine AllReadyH.cons rfl (fun K hK => ?_) AllReadyH.nil
        · rw [if_pos (by rfl)]
          go_simp
          refine (HF1.out _ hB).mono ?_
          rintro e W' ⟨rfl, hb⟩
          replace kp := kp.below hb kp.lt
          replace kq := kq.below hb kq.lt
          replace kr := kr.below hb kr.lt
          replace hB := hB.trans (hb.mono hB.size)
          clear hb
          go_simp
          refine hK.out _ _ trivial (fun hHeld => ?_)
          clear hK K hHeld
          try simp only [Act.put, List.setIfInBounds_toArray, List.set_cons_zero, List.set_cons_succ]
          refine wpAnyH_ready (rs := [3]) (by kernel_rfl) (by simp) ?_
          refine AllReadyH.cons rfl (fun K hK => ?_) AllReadyH.nil
          · rw [if_pos (by rfl)]
            go_simp
            refine (HF2.out _ hB).mono ?_
            rintro e W' ⟨rfl, hb⟩
            replace kp := kp.below hb kp.lt
            replace kq := kq.below hb kq.lt
            replace kr := kr.below hb kr.lt
            replace hB := hB.trans (hb.mono hB.size)
            clear hb
            go_simp
            refine hK.out _ _ trivial (fun hHeld => ?_)
            clear hK K hHeld
            try simp only [Act.put, List.setIfInBounds_toArray, List.set_cons_zero, List.set_cons_succ]
            refine wpAnyH_ready (rs := [4]) (by kernel_rfl) (by simp) ?_
            refine AllReadyH.cons rfl (fun K hK => ?_) AllReadyH.nil
            · rw [if_pos (by rfl)]
              obtain ⟨_, _, _, f0, f1, f2⟩ := kp.facts
              go_simp
              refine hK.out _ _ trivial (fun hHeld => ?_)
              clear hK K hHeld
              clear f0 f1 f2
              replace kq := kq.far3 hqp (.bool (qn q1)) (.string (qs q1)) (.string (qt q1))
              replace kr := kr.far3 hrp (.bool (qn q1)) (.string (qs q1)) (.string (qt q1))
              replace kp := kp.put (qn q1) (qs q1) (qt q1)
              replace hB := ((hB.setCell (p := ⟨w.heap.size, 0, none⟩) hp (.bool (qn q1))).setCell (p := ⟨w.heap.size, 1, none⟩) hp (.string (qs q1))).setCell (p := ⟨w.heap.size, 2, none⟩) hp (.string (qt q1))
              generalize ((World.setCell _ _ _).setCell _ _).setCell _ _ = W' at kp kq kr hB ⊢
              try simp only [Act.put, List.setIfInBounds_toArray, List.set_cons_zero, List.set_cons_succ]
              refine wpAnyH_ready (rs := [5]) (by kernel_rfl) (by simp) ?_
              refine AllReadyH.cons rfl (fun K hK => ?_) AllReadyH.nil
              · rw [if_pos (by rfl)]
                obtain ⟨_, _, _, f0, f1, f2⟩ := kq.facts
                go_simp
                refine hK.out _ _ trivial (fun hHeld => ?_)
                clear hK K hHeld
                clear f0 f1 f2
                replace kp := kp.far3 hpq (.bool (qn q2)) (.string (qs q2)) (.string (qt q2))
                replace kr := kr.far3 hrq (.bool (qn q2)) (.string (qs q2)) (.string (qt q2))
                replace kq := kq.put (qn q2) (qs q2) (qt q2)
                replace hB := ((hB.setCell (p := ⟨w.heap.size + 1, 0, none⟩) hq (.bool (qn q2))).setCell (p := ⟨w.heap.size + 1, 1, none⟩) hq (.string (qs q2))).setCell (p := ⟨w.heap.size + 1, 2, none⟩) hq (.string (qt q2))
                generalize ((World.setCell _ _ _).setCell _ _).setCell _ _ = W' at kp kq kr hB ⊢
                try simp only [Act.put, List.setIfInBounds_toArray, List.set_cons_zero, List.set_cons_succ]
                refine wpAnyH_done (by kernel_rfl) ?_ _
                go_wp2_with fail
                go_meet
                exact ⟨kp, kq, kr, hB⟩
  case rest =>
    clear kp kq kr hB
    obtain ⟨kp, kq, kr, hB⟩ := hcut
    have hb0 := Lib.hid (Below.refl (w.heap.size + 1 + 1) wc)
    have hsz := hB.size
    have hlt := kr.lt
    by_cases hden : q1.den = q2.den
    · have SG := Lib.hid (fun W => signed_any W (qn q1) (qn q2) q1.num.natAbs q2.num.natAbs (by have := qs_size q1; unfold qs at this; omega) (by have := qs_size q2; unfold qs at this; omega))
      rw [qn_sgn, qn_sgn] at SG
      have MD := Lib.hid (show ∀ k sr, (∃ r, sr = natS r ∧ sgn k r = q1.num + q2.num) → ∀ W, Below w.heap.size w W → Calls Tryd.prog 79 #[.bool k, .string sr, .string (qt q1)] W fun e w' => e = .returned (QV (q1 + q2)) ∧ Below W.heap.size W w' from fun k sr hr W hW => by
        obtain ⟨r, rfl, hr⟩ := hr
        have hsz := sgn_size (B := 1099511627776) hr (by unfold qz at hz1; omega) (by unfold qz at hz2; omega)
        have := made_any W k r q1.den q1.den_nz (by omega) (by have := qt_size q1; unfold qt at this; omega) (HTW.out W hW)
        rw [hr, mkRat_same q1 q2 hden] at this
        exact this)
      have hdd : qt q2 = qt q1 := by unfold qt; rw [hden]
      rw [show natS q1.num.natAbs = qs q1 from rfl, show natS q2.num.natAbs = qs q2 from rfl] at SG
      obtain ⟨c0, c1, c2, _, _, _⟩ := kp.facts
      obtain ⟨e0, e1, e2, _, _, _⟩ := kq.facts
      rw [hdd] at e2
      unfold QV at MD
      obtain ⟨nQ, hnQ⟩ : ∃ x, x = qn (q1 + q2) := ⟨_, rfl⟩
      obtain ⟨sQ, hsQ⟩ : ∃ x, x = qs (q1 + q2) := ⟨_, rfl⟩
      obtain ⟨tQ, htQ⟩ : ∃ x, x = qt (q1 + q2) := ⟨_, rfl⟩
      have HV := Lib.hid (show Value.agg #[.bool nQ, .string sQ, .string tQ] = QV (q1 + q2) by rw [hnQ, hsQ, htQ]; rfl)
      rw [← hnQ, ← hsQ, ← htQ] at MD
      clear hnQ hsQ htQ
      obtain ⟨b1, hb1⟩ : ∃ x, x = qn q1 := ⟨_, rfl⟩
      obtain ⟨b2, hb2⟩ : ∃ x, x = qn q2 := ⟨_, rfl⟩
      obtain ⟨a1, ha1⟩ : ∃ x, x = qs q1 := ⟨_, rfl⟩
      obtain ⟨a2, ha2⟩ : ∃ x, x = qs q2 := ⟨_, rfl⟩
      obtain ⟨d1, hd1⟩ : ∃ x, x = qt q1 := ⟨_, rfl⟩
      obtain ⟨d2, hd2⟩ : ∃ x, x = qt q2 := ⟨_, rfl⟩
      rw [← hd1] at MD
      rw [← hb1, ← hb2, ← ha1, ← ha2] at SG
      rw [← hb1] at c0
      rw [← ha1] at c1
      rw [← hd1] at c2 e2
      rw [← hb2] at e0
      rw [← ha2] at e1
      have HC := Lib.hid (show ∀ w', Below wc.heap.size wc w' → w'.cell? ⟨w.heap.size, 2, none⟩ = some (.string d1) from fun w' hb => by rw [hb.cell (show w.heap.size < wc.heap.size from kp.lt)]; exact c2)
      have HB := Lib.hid hB
      clear hb1 hb2 ha1 ha2 hd1 hd2 hdd HF1 HF2 hz1 hz2 hq1 hq2 hs1 hs2 ht1 ht2 hden kp kq hB
      go_wp2_with fail
      refine (SG.out _).mono ?_
      rintro e w2 ⟨k, r, rfl, hr, hb2⟩
      replace kr := kr.below hb2 kr.lt
      have c2 := HC.out _ hb2
      have HM := Lib.hid (MD.out k (natS r) ⟨r, rfl, hr⟩)
      have hB2 := HB.out.trans (hb2.mono HB.out.size)
      have HB2 := Lib.hid hB2
      obtain ⟨sr, hsr⟩ : ∃ x, x = natS r := ⟨_, rfl⟩
      rw [← hsr] at HM ⊢
      clear c0 c1 e0 e1 e2 hr MD SG HC hsr hb2 hB2 hsz
      go_wp2_with fail
      refine (HM.out _ HB2.out).mono ?_
      rintro e w3 ⟨rfl, hb3⟩
      replace kr := kr.below hb3 kr.lt
      have hfin := HB2.out.trans (hb3.mono HB2.out.size)
      obtain ⟨_, _, _, f0, f1, f2⟩ := kr.facts
      have HZ := Lib.hid (kr.put nQ sQ tQ)
      clear hb3 kr HM c2
      go_wp2
      refine bodyPost_ret (results_cell_row Tryd.results43 _ _ (w.heap.size + 1 + 1) 25 _ (0, 0) _ rfl HZ.out Tryd.underlying25 rfl (by kernel_rfl)) rfl ?_
      exact ⟨congrArg Ending.returned HV.out, ((hfin.setCell (by simp; omega) _).setCell (by simp; omega) _).setCell (by simp; omega) _⟩
    have hdne : ¬ (qt q1).toList = (qt q2).toList := toList_ne (fun h => hden (natS_inj h))
    have hdnb : ((qt q1).toList == (qt q2).toList) = false := by rw [beq_eq_false_iff_ne]; exact hdne
    have hdnc : (qt q1 == qt q2) = false := by rw [Bool.eq_false_iff, ne_eq, str_beq]; exact fun h => hden (natS_inj h)
    have M1 := Lib.hid (fun W => mul_any W (natS q1.num.natAbs) (natS q2.den) (by have := qs_size q1; unfold qs at this; omega) (by have := qt_size q2; unfold qt at this; omega))
    simp only [sval_natS] at M1
    have hlM1 := natL_len_mul q1.num.natAbs q2.den
    rw [show natS q1.num.natAbs = qs q1 from rfl, show natS q2.den = qt q2 from rfl] at M1
    have M2 := Lib.hid (fun W => mul_any W (natS q2.num.natAbs) (natS q1.den) (by have := qs_size q2; unfold qs at this; omega) (by have := qt_size q1; unfold qt at this; omega))
    simp only [sval_natS] at M2
    have hlM2 := natL_len_mul q2.num.natAbs q1.den
    rw [show natS q2.num.natAbs = qs q2 from rfl, show natS q1.den = qt q1 from rfl] at M2
    have M3 := Lib.hid (fun W => mul_any W (natS q1.den) (natS q2.den) (by have := qt_size q1; unfold qt at this; omega) (by have := qt_size q2; unfold qt at this; omega))
    simp only [sval_natS] at M3
    have hlM3 := natL_len_mul q1.den q2.den
    rw [show natS q1.den = qt q1 from rfl, show natS q2.den = qt q2 from rfl] at M3
    have SG := Lib.hid (show ∀ W, Calls Tryd.prog 82 #[.bool (qn q1), .string (natS (q1.num.natAbs * q2.den)), .bool (qn q2), .string (natS (q2.num.natAbs * q1.den))] W fun e w' => ∃ k sr, e = .returned (.tuple #[.bool k, .string sr]) ∧ Hid (∃ r, sr = natS r ∧ sgn k r = q1.num * (q2.den : Int) + q2.num * (q1.den : Int)) ∧ Below W.heap.size W w' from fun W => by
      have := signed_any W (qn q1) (qn q2) (q1.num.natAbs * q2.den) (q2.num.natAbs * q1.den) (by rw [natS_size]; unfold qz at hz1 hz2; omega) (by rw [natS_size]; unfold qz at hz1 hz2; omega)
      rw [← sgn_mul_nat, ← sgn_mul_nat, qn_sgn, qn_sgn] at this
      refine this.mono ?_
      rintro e w' ⟨k, r, h1, h2, h3⟩
      exact ⟨k, _, h1, Lib.hid ⟨r, rfl, h2⟩, h3⟩)
    have MD := Lib.hid (show ∀ k sr, (∃ r, sr = natS r ∧ sgn k r = q1.num * (q2.den : Int) + q2.num * (q1.den : Int)) → ∀ W, Below w.heap.size w W → Calls Tryd.prog 79 #[.bool k, .string sr, .string (natS (q1.den * q2.den))] W fun e w' => e = .returned (QV (q1 + q2)) ∧ Below W.heap.size W w' from fun k sr hr W hW => by
      obtain ⟨r, rfl, hr⟩ := hr
      have hsz := sgn_size (B := 2199023255552) hr (by rw [Int.natAbs_mul, Int.natAbs_natCast]; unfold qz at hz1 hz2; omega) (by rw [Int.natAbs_mul, Int.natAbs_natCast]; unfold qz at hz1 hz2; omega)
      have := made_any W k r (q1.den * q2.den) (Nat.mul_ne_zero q1.den_nz q2.den_nz) (by omega) (by rw [natS_size]; unfold qz at hz1 hz2; omega) (HTW.out W hW)
      rw [hr, ← Rat.add_def'] at this
      exact this)
    have HS := Lib.hid (show ∀ w', Below (w.heap.size + 1 + 1) wc w' → w'.cell? ⟨w.heap.size, 0, none⟩ = some (.bool (qn q1)) ∧ w'.cell? ⟨w.heap.size, 1, none⟩ = some (.string (qs q1)) ∧ w'.cell? ⟨w.heap.size, 2, none⟩ = some (.string (qt q1)) ∧ w'.cell? ⟨w.heap.size + 1, 0, none⟩ = some (.bool (qn q2)) ∧ w'.cell? ⟨w.heap.size + 1, 1, none⟩ = some (.string (qs q2)) ∧ w'.cell? ⟨w.heap.size + 1, 2, none⟩ = some (.string (qt q2)) from fun w' hb => by
      obtain ⟨h1, h2, h3, _⟩ := (kp.below hb (by omega)).facts
      obtain ⟨h4, h5, h6, _⟩ := (kq.below hb (by omega)).facts
      exact ⟨h1, h2, h3, h4, h5, h6⟩)
    unfold QV at MD
    obtain ⟨nQ, hnQ⟩ : ∃ x, x = qn (q1 + q2) := ⟨_, rfl⟩
    obtain ⟨sQ, hsQ⟩ : ∃ x, x = qs (q1 + q2) := ⟨_, rfl⟩
    obtain ⟨tQ, htQ⟩ : ∃ x, x = qt (q1 + q2) := ⟨_, rfl⟩
    have HV := Lib.hid (show Value.agg #[.bool nQ, .string sQ, .string tQ] = QV (q1 + q2) by rw [hnQ, hsQ, htQ]; rfl)
    rw [← hnQ, ← hsQ, ← htQ] at MD
    clear hnQ hsQ htQ
    obtain ⟨b1, hb1⟩ : ∃ x, x = qn q1 := ⟨_, rfl⟩
    obtain ⟨b2, hb2⟩ : ∃ x, x = qn q2 := ⟨_, rfl⟩
    obtain ⟨a1, ha1⟩ : ∃ x, x = qs q1 := ⟨_, rfl⟩
    obtain ⟨a2, ha2⟩ : ∃ x, x = qs q2 := ⟨_, rfl⟩
    obtain ⟨d1, hd1⟩ : ∃ x, x = qt q1 := ⟨_, rfl⟩
    obtain ⟨d2, hd2⟩ : ∃ x, x = qt q2 := ⟨_, rfl⟩
    obtain ⟨x1, hx1⟩ : ∃ x, x = natS (q1.num.natAbs * q2.den) := ⟨_, rfl⟩
    obtain ⟨x2, hx2⟩ : ∃ x, x = natS (q2.num.natAbs * q1.den) := ⟨_, rfl⟩
    obtain ⟨d, hd⟩ : ∃ x, x = natS (q1.den * q2.den) := ⟨_, rfl⟩
    rw [← hd] at MD M3
    rw [← hx1] at M1 SG
    rw [← hx2] at M2 SG
    rw [← hb1, ← hb2] at SG
    rw [← ha1, ← hd2] at M1
    rw [← ha2, ← hd1] at M2
    rw [← hd1, ← hd2] at M3 hdne hdnb hdnc
    rw [← hb1, ← hb2, ← ha1, ← ha2, ← hd1, ← hd2] at HS
    have HB := Lib.hid hB
    clear HF1 HF2 hlM1 hlM2 hlM3 hz1 hz2 hq1 hq2 hs1 hs2 ht1 ht2 hb1 hb2 ha1 ha2 hd1 hd2 hx1 hx2 hd kp kq hB hden
    obtain ⟨_, _, cd1, _, _, cd2⟩ := HS.out _ hb0.out
    go_wp2_with fail
    clear cd1 cd2
    go_region_held3 (fun w' => w'.cell? ⟨w.heap.size, 0, none⟩ = some (.bool b1) ∧ w'.cell? ⟨w.heap.size, 1, none⟩ = some (.string a1) ∧ w'.cell? ⟨w.heap.size, 2, none⟩ = some (.string d1) ∧ w'.cell? ⟨w.heap.size + 1, 0, none⟩ = some (.bool b2) ∧ w'.cell? ⟨w.heap.size + 1, 1, none⟩ = some (.string a2) ∧ w'.cell? ⟨w.heap.size + 1, 2, none⟩ = some (.string d2))
      (with_reducible (first
        | exact HS.out _ hr5
        | exact HS.out _ hr4
        | exact HS.out _ hr3
        | exact HS.out _ hb0.out.drew))
      (first
        | (go_at_call_of 70 (Value.string a1); refine (M1.out _).mono ?_; rintro e w3 ⟨rfl, hb3⟩; have hr3 := hb0.out.drew.trans (hb3.mono (show w.heap.size + 1 + 1 ≤ wc.heap.size by omega)); have kr3 := kr.drew.below hb3 kr.lt)
        | (go_at_call_of 70 (Value.string a2); refine (M2.out _).mono ?_; rintro e w4 ⟨rfl, hb4⟩; have hr4 := hr3.trans (hb4.mono (by have := hr3.size; omega)); have kr4 := kr3.below hb4 kr3.lt)
        | (go_at_call 82; refine (SG.out _).mono ?_; rintro e w5 ⟨k, sr, rfl, hsr, hb5⟩; have hr5 := hr4.trans (hb5.mono (by have := hr4.size; omega)); have kr5 := kr4.below hb5 kr4.lt))
    rename_i hHeld
    clear hHeld
    obtain ⟨_, _, cd1, _, _, cd2⟩ := HS.out _ hr5
    have hfin : Below w.heap.size w w5 := HB.out.trans (hr5.mono (by omega))
    have HM := Lib.hid (MD.out k sr hsr.out)
    have HC := Lib.hid (fun w' h => HS.out w' (hr5.trans h))
    have hz5 := hr5.size
    clear kr kr3 kr4 hr3 hr4 hr5 hb3 hb4 hb5 M1 M2 SG MD HS hsr HB
    go_wp2_with fail
    refine (M3.out _).mono ?_
    rintro e w6 ⟨rfl, hb6⟩
    have kr6 := kr5.below hb6 kr5.lt
    replace hfin := hfin.trans (hb6.mono hfin.size)
    have Hfin := Lib.hid hfin
    clear cd1 cd2 hb6 kr5 M3 hfin
    go_wp2_with fail
    refine (HM.out _ Hfin.out).mono ?_
    rintro e w7 ⟨rfl, hb7⟩
    have kr7 := kr6.below hb7 kr6.lt
    have hfin := Hfin.out.trans (hb7.mono Hfin.out.size)
    obtain ⟨_, _, _, f0, f1, f2⟩ := kr7.facts
    have HZ := Lib.hid (kr7.put nQ sQ tQ)
    clear hb7 kr6 kr7 HM HC
    go_wp2
    refine bodyPost_ret (results_cell_row Tryd.results43 _ _ (w.heap.size + 1 + 1) 25 _ (0, 0) _ rfl HZ.out Tryd.underlying25 rfl (by kernel_rfl)) rfl ?_
    exact ⟨congrArg Ending.returned HV.out, ((hfin.setCell (by simp; omega) _).setCell (by simp; omega) _).setCell (by simp; omega) _⟩
end Go.Proofs.YtnnbnecpcppkdaaDoor
namespace Go.Proofs.YtnnbnecpcppkdaaDoor
open Go.RowKit Go.Gy
set_option linter.unusedVariables false
/-- the order of two numbers -/
def cmpQ (a b : Rat) : Int := if a < b then -1 else if b < a then 1 else 0
theorem cmpQ_neg {a b : Rat} (ha : qn a = true) (hb : qn b = false) : cmpQ a b = -1 := by
  unfold cmpQ
  have h : a < b := by
    rw [Rat.lt_iff]
    have h1 : a.num < 0 := of_decide_eq_true ha
    have h2 : 0 ≤ b.num := by have := of_decide_eq_false hb; omega
    have h3 : a.num * (b.den : Int) < 0 := Int.mul_neg_of_neg_of_pos h1 (by have := b.den_pos; omega)
    have h4 : 0 ≤ b.num * (a.den : Int) := Int.mul_nonneg h2 (by omega)
    omega
  rw [if_pos h]
theorem cmpQ_pos {a b : Rat} (ha : qn a = false) (hb : qn b = true) : cmpQ a b = 1 := by
  unfold cmpQ
  have h : b < a := by
    rw [Rat.lt_iff]
    have h1 : b.num < 0 := of_decide_eq_true hb
    have h2 : 0 ≤ a.num := by have := of_decide_eq_false ha; omega
    have h3 : b.num * (a.den : Int) < 0 := Int.mul_neg_of_neg_of_pos h1 (by have := a.den_pos; omega)
    have h4 : 0 ≤ a.num * (b.den : Int) := Int.mul_nonneg h2 (by omega)
    omega
  rw [if_neg (by grind), if_pos h]
theorem cmpQ_same {a b : Rat} {k : Bool} (ha : qn a = k) (hb : qn b = k) : cmpQ a b = (if k = true then -1 else 1) * cmpN (a.num.natAbs * b.den) (b.num.natAbs * a.den) := by
  unfold cmpQ
  have h1 := qn_sgn a
  have h2 := qn_sgn b
  rw [ha] at h1
  rw [hb] at h2
  have e1 := Rat.lt_iff a b
  have e2 := Rat.lt_iff b a
  rw [show a.num * (b.den : Int) = sgn k (a.num.natAbs * b.den) by rw [← sgn_mul_nat, h1], show b.num * (a.den : Int) = sgn k (b.num.natAbs * a.den) by rw [← sgn_mul_nat, h2]] at e1 e2
  simp only [e1, e2]
  clear e1 e2
  generalize a.num.natAbs * b.den = x
  generalize b.num.natAbs * a.den = y
  unfold cmpN
  cases k
  · show _ = (1 : Int) * _
    rw [Int.one_mul, sgn_false, sgn_false]
    (repeat' split) <;> omega
  · show _ = (-1 : Int) * _
    rw [sgn_true, sgn_true]
    (repeat' split) <;> omega
set_option maxRecDepth 100000 in
set_option maxHeartbeats 4000000 in
theorem cmpq_any (w : World) (n1 : Bool) (s1 t1 : ByteArray) (n2 : Bool) (s2 t2 : ByteArray) (q1 q2 : Rat) (hq1 : fitQ n1 s1 t1 = q1) (hq2 : fitQ n2 s2 t2 = q2) (hs1 : s1.size ≤ 1099511627776) (ht1 : t1.size ≤ 1099511627776) (hs2 : s2.size ≤ 1099511627776) (ht2 : t2.size ≤ 1099511627776) (hT : TabW w) :
    Calls Tryd.prog 27 #[.agg #[.bool n1, .string s1, .string t1], .agg #[.bool n2, .string s2, .string t2]] w fun e w' => e = .returned (.int .i64 (cmpQ q1 q2)) ∧ Below w.heap.size w w' := by
  have HTW := Lib.hid (fun W hW => TabW.below (w' := W) hT hW)
  have HF1 := Lib.hid (fun W hW => fit_any W n1 s1 t1 (by omega) (by omega) (HTW.out W hW))
  have HF2 := Lib.hid (fun W hW => fit_any W n2 s2 t2 (by omega) (by omega) (HTW.out W hW))
  rw [hq1] at HF1
  rw [hq2] at HF2
  have hz1 : qz q1 ≤ 1099511627776 := by rw [← hq1]; have := qz_fit n1 s1 t1; omega
  have hz2 : qz q2 ≤ 1099511627776 := by rw [← hq2]; have := qz_fit n2 s2 t2; omega
  clear hT
  unfold QV at HF1 HF2
  obtain ⟨kp, kq, hB, _⟩ := R3.two w n1 s1 t1 n2 s2 t2
  have hp : w.heap.size ≤ w.heap.size := Nat.le_refl _
  have hq : w.heap.size ≤ w.heap.size + 1 := by omega
  have hpq : w.heap.size ≠ w.heap.size + 1 := by omega
  have hqp : w.heap.size + 1 ≠ w.heap.size := by omega
  go_enter Tryd.func27, Tryd.ntmps27
  go_upto_region 1 with (fail)
  go_cut [] (fun wx => R3 wx w.heap.size (qn q1) (qs q1) (qt q1) ∧ R3 wx (w.heap.size + 1) (qn q2) (qs q2) (qt q2) ∧ Below w.heap.size w wx)
  case first =>
    generalize (w.alloc _).alloc _ = w1 at kp kq hB ⊢
    refine wp_region_held_drew (S := fun _ => True) (by kernel_rfl) trivial (fun hHeld => ?_)
    clear hHeld
    replace kp := kp.drew
    replace kq := kq.drew
    replace hB := hB.drew
    generalize World.drew _ = W at kp kq hB ⊢
    refine wpAnyH_ready (rs := [0, 2]) (by kernel_rfl) (by simp) ?_
    refine AllReadyH.cons rfl (fun K hK => ?_) (AllReadyH.cons rfl (fun K hK => ?_) AllReadyH.nil)
    · rw [if_pos (by rfl)]
      obtain ⟨a0, a1, a2, _, _, _⟩ := kp.facts
      go_simp
      refine hK.out _ _ trivial (fun hHeld => ?_)
      clear hK K hHeld
      clear a0 a1 a2
      try simp only [Act.put, List.setIfInBounds_toArray, List.set_cons_zero, List.set_cons_succ]
      refine wpAnyH_ready (rs := [1, 2]) (by kernel_rfl) (by simp) ?_
      refine AllReadyH.cons rfl (fun K hK => ?_) (AllReadyH.cons rfl (fun K hK => ?_) AllReadyH.nil)
      · rw [if_pos (by rfl)]
        go_simp
        refine (HF1.out _ hB).mono ?_
        rintro e W' ⟨rfl, hb⟩
        replace kp := kp.below hb kp.lt
        replace kq := kq.below hb kq.lt
        replace hB := hB.trans (hb.mono hB.size)
        clear hb
        go_simp
        refine hK.out _ _ trivial (fun hHeld => ?_)
        clear hK K hHeld
        try simp only [Act.put, List.setIfInBounds_toArray, List.set_cons_zero, List.set_cons_succ]
        refine wpAnyH_ready (rs := [2]) (by kernel_rfl) (by simp) ?_
        refine AllReadyH.cons rfl (fun K hK => ?_) AllReadyH.nil
        · rw [if_pos (by rfl)]
          obtain ⟨a0, a1, a2, _, _, _⟩ := kq.facts
          go_simp
          refine hK.out _ _ trivial (fun hHeld => ?_)
          clear hK K hHeld
          clear a0 a1 a2
          try simp only [Act.put, List.setIfInBounds_toArray, List.set_cons_zero, List.set_cons_succ]
          refine wpAnyH_ready (rs := [3]) (by kernel_rfl) (by simp) ?_
          refine AllReadyH.cons rfl (fun K hK => ?_) AllReadyH.nil
          · rw [if_pos (by rfl)]
            go_simp
            refine (HF2.out _ hB).mono ?_
            rintro e W' ⟨rfl, hb⟩
            replace kp := kp.below hb kp.lt
            replace kq := kq.below hb kq.lt
            replace hB := hB.trans (hb.mono hB.size)
            clear hb
            go_simp
            refine hK.out _ _ trivial (fun hHeld => ?_)
            clear hK K hHeld
            try simp only [Act.put, List.setIfInBounds_toArray, List.set_cons_zero, List.set_cons_succ]
            refine wpAnyH_ready (rs := [4]) (by kernel_rfl) (by simp) ?_
            refine AllReadyH.cons rfl (fun K hK => ?_) AllReadyH.nil
            · rw [if_pos (by rfl)]
              obtain ⟨_, _, _, f0, f1, f2⟩ := kp.facts
              go_simp
              refine hK.out _ _ trivial (fun hHeld => ?_)
              clear hK K hHeld
              clear f0 f1 f2
              replace kq := kq.far3 hqp (.bool (qn q1)) (.string (qs q1)) (.string (qt q1))
              replace kp := kp.put (qn q1) (qs q1) (qt q1)
              replace hB := ((hB.setCell (p := ⟨w.heap.size, 0, none⟩) hp (.bool (qn q1))).setCell (p := ⟨w.heap.size, 1, none⟩) hp (.string (qs q1))).setCell (p := ⟨w.heap.size, 2, none⟩) hp (.string (qt q1))
              generalize ((World.setCell _ _ _).setCell _ _).setCell _ _ = W' at kp kq hB ⊢
              try simp only [Act.put, List.setIfInBounds_toArray, List.set_cons_zero, List.set_cons_succ]
              refine wpAnyH_ready (rs := [5]) (by kernel_rfl) (by simp) ?_
              refine AllReadyH.cons rfl (fun K hK => ?_) AllReadyH.nil
              · rw [if_pos (by rfl)]
                obtain ⟨_, _, _, f0, f1, f2⟩ := kq.facts
                go_simp
                refine hK.out _ _ trivial (fun hHeld => ?_)
                clear hK K hHeld
                clear f0 f1 f2
                replace kp := kp.far3 hpq (.bool (qn q2)) (.string (qs q2)) (.string (qt q2))
                replace kq := kq.put (qn q2) (qs q2) (qt q2)
                replace hB := ((hB.setCell (p := ⟨w.heap.size + 1, 0, none⟩) hq (.bool (qn q2))).setCell (p := ⟨w.heap.size + 1, 1, none⟩) hq (.string (qs q2))).setCell (p := ⟨w.heap.size + 1, 2, none⟩) hq (.string (qt q2))
                generalize ((World.setCell _ _ _).setCell _ _).setCell _ _ = W' at kp kq hB ⊢
                try simp only [Act.put, List.setIfInBounds_toArray, List.set_cons_zero, List.set_cons_succ]
                refine wpAnyH_done (by kernel_rfl) ?_ _
                go_wp2_with fail
                go_meet
                exact ⟨kp, kq, hB⟩
      · rw [if_pos (by rfl)]
        obtain ⟨a0, a1, a2, _, _, _⟩ := kq.facts
        go_simp
        refine hK.out _ _ trivial (fun hHeld => ?_)
        clear hK K hHeld
        clear a0 a1 a2
        try simp only [Act.put, List.setIfInBounds_toArray, List.set_cons_zero, List.set_cons_succ]
        refine wpAnyH_ready (rs := [1]) (by kernel_rfl) (by simp) ?_
        refine AllReadyH.cons rfl (fun K hK => ?_) AllReadyH.nil
        · rw [if_pos (by rfl)]
          go_simp
          refine (HF1.out _ hB).mono ?_
          rintro e W' ⟨rfl, hb⟩
          replace kp := kp.below hb kp.lt
          replace kq := kq.below hb kq.lt
          replace hB := hB.trans (hb.mono hB.size)
          clear hb
          go_simp
          refine hK.out _ _ trivial (fun hHeld => ?_)
          clear hK K hHeld
          try simp only [Act.put, List.setIfInBounds_toArray, List.set_cons_zero, List.set_cons_succ]
          refine wpAnyH_ready (rs := [3]) (by kernel_rfl) (by simp) ?_
          refine AllReadyH.cons rfl (fun K hK => ?_) AllReadyH.nil
          · rw [if_pos (by rfl)]
            go_simp
            refine (HF2.out _ hB).mono ?_
            rintro e W' ⟨rfl, hb⟩
            replace kp := kp.below hb kp.lt
            replace kq := kq.below hb kq.lt
            replace hB := hB.trans (hb.mono hB.size)
            clear hb
            go_simp
            refine hK.out _ _ trivial (fun hHeld => ?_)
            clear hK K hHeld
            try simp only [Act.put, List.setIfInBounds_toArray, List.set_cons_zero, List.set_cons_succ]
            refine wpAnyH_ready (rs := [4]) (by kernel_rfl) (by simp) ?_
            refine AllReadyH.cons rfl (fun K hK => ?_) AllReadyH.nil
            · rw [if_pos (by rfl)]
              obtain ⟨_, _, _, f0, f1, f2⟩ := kp.facts
              go_simp
              refine hK.out _ _ trivial (fun hHeld => ?_)
              clear hK K hHeld
              clear f0 f1 f2
              replace kq := kq.far3 hqp (.bool (qn q1)) (.string (qs q1)) (.string (qt q1))
              replace kp := kp.put (qn q1) (qs q1) (qt q1)
              replace hB := ((hB.setCell (p := ⟨w.heap.size, 0, none⟩) hp (.bool (qn q1))).setCell (p := ⟨w.heap.size, 1, none⟩) hp (.string (qs q1))).setCell (p := ⟨w.heap.size, 2, none⟩) hp (.string (qt q1))
              generalize ((World.setCell _ _ _).setCell _ _).setCell _ _ = W' at kp kq hB ⊢
              try simp only [Act.put, List.setIfInBounds_toArray, List.set_cons_zero, List.set_cons_succ]
              refine wpAnyH_ready (rs := [5]) (by kernel_rfl) (by simp) ?_
              refine AllReadyH.cons rfl (fun K hK => ?_) AllReadyH.nil
              · rw [if_pos (by rfl)]
                obtain ⟨_, _, _, f0, f1, f2⟩ := kq.facts
                go_simp
                refine hK.out _ _ trivial (fun hHeld => ?_)
                clear hK K hHeld
                clear f0 f1 f2
                replace kp := kp.far3 hpq (.bool (qn q2)) (.string (qs q2)) (.string (qt q2))
                replace kq := kq.put (qn q2) (qs q2) (qt q2)
                replace hB := ((hB.setCell (p := ⟨w.heap.size + 1, 0, none⟩) hq (.bool (qn q2))).setCell (p := ⟨w.heap.size + 1, 1, none⟩) hq (.string (qs q2))).setCell (p := ⟨w.heap.size + 1, 2, none⟩) hq (.string (qt q2))
                generalize ((World.setCell _ _ _).setCell _ _).setCell _ _ = W' at kp kq hB ⊢
                try simp only [Act.put, List.setIfInBounds_toArray, List.set_cons_zero, List.set_cons_succ]
                refine wpAnyH_done (by kernel_rfl) ?_ _
                go_wp2_with fail
                go_meet
                exact ⟨kp, kq, hB⟩
    · rw [if_pos (by rfl)]
      obtain ⟨a0, a1, a2, _, _, _⟩ := kq.facts
      go_simp
      refine hK.out _ _ trivial (fun hHeld => ?_)
      clear hK K hHeld
      clear a0 a1 a2
      try simp only [Act.put, List.setIfInBounds_toArray, List.set_cons_zero, List.set_cons_succ]
      refine wpAnyH_ready (rs := [0]) (by kernel_rfl) (by simp) ?_
      refine AllReadyH.cons rfl (fun K hK => ?_) AllReadyH.nil
      · rw [if_pos (by rfl)]
        obtain ⟨a0, a1, a2, _, _, _⟩ := kp.facts
        go_simp
        refine hK.out _ _ trivial (fun hHeld => ?_)
        clear hK K hHeld
        clear a0 a1 a2
        try simp only [Act.put, List.setIfInBounds_toArray, List.set_cons_zero, List.set_cons_succ]
        refine wpAnyH_ready (rs := [1]) (by kernel_rfl) (by simp) ?_
        refine AllReadyH.cons rfl (fun K hK => ?_) AllReadyH.nil
        · rw [if_pos (by rfl)]
          go_simp
          refine (HF1.out _ hB).mono ?_
          rintro e W' ⟨rfl, hb⟩
          replace kp := kp.below hb kp.lt
          replace kq := kq.below hb kq.lt
          replace hB := hB.trans (hb.mono hB.size)
          clear hb
          go_simp
          refine hK.out _ _ trivial (fun hHeld => ?_)
          clear hK K hHeld
          try simp only [Act.put, List.setIfInBounds_toArray, List.set_cons_zero, List.set_cons_succ]
          refine wpAnyH_ready (rs := [3]) (by kernel_rfl) (by simp) ?_
          refine AllReadyH.cons rfl (fun K hK => ?_) AllReadyH.nil
          · rw [if_pos (by rfl)]
            go_simp
            refine (HF2.out _ hB).mono ?_
            rintro e W' ⟨rfl, hb⟩
            replace kp := kp.below hb kp.lt
            replace kq := kq.below hb kq.lt
            replace hB := hB.trans (hb.mono hB.size)
            clear hb
            go_simp
            refine hK.out _ _ trivial (fun hHeld => ?_)
            clear hK K hHeld
            try simp only [Act.put, List.setIfInBounds_toArray, List.set_cons_zero, List.set_cons_succ]
            refine wpAnyH_ready (rs := [4]) (by kernel_rfl) (by simp) ?_
            refine AllReadyH.cons rfl (fun K hK => ?_) AllReadyH.nil
            · rw [if_pos (by rfl)]
              obtain ⟨_, _, _, f0, f1, f2⟩ := kp.facts
              go_simp
              refine hK.out _ _ trivial (fun hHeld => ?_)
              clear hK K hHeld
              clear f0 f1 f2
              replace kq := kq.far3 hqp (.bool (qn q1)) (.string (qs q1)) (.string (qt q1))
              replace kp := kp.put (qn q1) (qs q1) (qt q1)
              replace hB := ((hB.setCell (p := ⟨w.heap.size, 0, none⟩) hp (.bool (qn q1))).setCell (p := ⟨w.heap.size, 1, none⟩) hp (.string (qs q1))).setCell (p := ⟨w.heap.size, 2, none⟩) hp (.string (qt q1))
              generalize ((World.setCell _ _ _).setCell _ _).setCell _ _ = W' at kp kq hB ⊢
              try simp only [Act.put, List.setIfInBounds_toArray, List.set_cons_zero, List.set_cons_succ]
              refine wpAnyH_ready (rs := [5]) (by kernel_rfl) (by simp) ?_
              refine AllReadyH.cons rfl (fun K hK => ?_) AllReadyH.nil
              · rw [if_pos (by rfl)]
                obtain ⟨_, _, _, f0, f1, f2⟩ := kq.facts
                go_simp
                refine hK.out _ _ trivial (fun hHeld => ?_)
                clear hK K hHeld
                clear f0 f1 f2
                replace kp := kp.far3 hpq (.bool (qn q2)) (.string (qs q2)) (.string (qt q2))
                replace kq := kq.put (qn q2) (qs q2) (qt q2)
                replace hB := ((hB.setCell (p := ⟨w.heap.size + 1, 0, none⟩) hq (.bool (qn q2))).setCell (p := ⟨w.heap.size + 1, 1, none⟩) hq (.string (qs q2))).setCell (p := ⟨w.heap.size + 1, 2, none⟩) hq (.string (qt q2))
                generalize ((World.setCell _ _ _).setCell _ _).setCell _ _ = W' at kp kq hB ⊢
                try simp only [Act.put, List.setIfInBounds_toArray, List.set_cons_zero, List.set_cons_succ]
                refine wpAnyH_done (by kernel_rfl) ?_ _
                go_wp2_with fail
                go_meet
                exact ⟨kp, kq, hB⟩
  case rest =>
    clear kp kq hB
    obtain ⟨kp, kq, hB⟩ := hcut
    obtain ⟨c0, _⟩ := kp.facts
    obtain ⟨e0, _⟩ := kq.facts
    cases hn1 : qn q1
    · cases hn2 : qn q2
      · clear c0 e0
        have hsz := kq.lt
        have M1 := Lib.hid (fun W => mul_any W (natS q1.num.natAbs) (natS q2.den) (by have := qs_size q1; unfold qs at this; omega) (by have := qt_size q2; unfold qt at this; omega))
        simp only [sval_natS] at M1
        have hlM1 := natL_len_mul q1.num.natAbs q2.den
        rw [show natS q1.num.natAbs = qs q1 from rfl, show natS q2.den = qt q2 from rfl] at M1
        have M2 := Lib.hid (fun W => mul_any W (natS q2.num.natAbs) (natS q1.den) (by have := qs_size q2; unfold qs at this; omega) (by have := qt_size q1; unfold qt at this; omega))
        simp only [sval_natS] at M2
        have hlM2 := natL_len_mul q2.num.natAbs q1.den
        rw [show natS q2.num.natAbs = qs q2 from rfl, show natS q1.den = qt q1 from rfl] at M2
        have HS := Lib.hid (show ∀ w', Below (w.heap.size + 1 + 1) wc w' → w'.cell? ⟨w.heap.size, 0, none⟩ = some (.bool (qn q1)) ∧ w'.cell? ⟨w.heap.size, 1, none⟩ = some (.string (qs q1)) ∧ w'.cell? ⟨w.heap.size, 2, none⟩ = some (.string (qt q1)) ∧ w'.cell? ⟨w.heap.size + 1, 0, none⟩ = some (.bool (qn q2)) ∧ w'.cell? ⟨w.heap.size + 1, 1, none⟩ = some (.string (qs q2)) ∧ w'.cell? ⟨w.heap.size + 1, 2, none⟩ = some (.string (qt q2)) from fun w' hb => by
          obtain ⟨h1, h2, h3, _⟩ := (kp.below hb (by omega)).facts
          obtain ⟨h4, h5, h6, _⟩ := (kq.below hb (by omega)).facts
          exact ⟨h1, h2, h3, h4, h5, h6⟩)
        have C1 := Lib.hid (fun W => cmp_any W (natS (q1.num.natAbs * q2.den)) (natS (q2.num.natAbs * q1.den)) (by rw [natS_size]; unfold qz at hz1 hz2; omega) (by rw [natS_size]; unfold qz at hz1 hz2; omega))
        rw [sval_natS, sval_natS] at C1
        have HP := Lib.hid (cmpQ_same hn1 hn2)
        rw [hn1, hn2] at HS
        obtain ⟨a1, ha1⟩ : ∃ x, x = qs q1 := ⟨_, rfl⟩
        obtain ⟨a2, ha2⟩ : ∃ x, x = qs q2 := ⟨_, rfl⟩
        obtain ⟨d1, hd1⟩ : ∃ x, x = qt q1 := ⟨_, rfl⟩
        obtain ⟨d2, hd2⟩ : ∃ x, x = qt q2 := ⟨_, rfl⟩
        obtain ⟨x1, hx1⟩ : ∃ x, x = natS (q1.num.natAbs * q2.den) := ⟨_, rfl⟩
        obtain ⟨x2, hx2⟩ : ∃ x, x = natS (q2.num.natAbs * q1.den) := ⟨_, rfl⟩
        obtain ⟨cc, hcc⟩ : ∃ x, x = cmpN (q1.num.natAbs * q2.den) (q2.num.natAbs * q1.den) := ⟨_, rfl⟩
        rw [← hcc] at C1 HP
        have hcl : -1 ≤ cc ∧ cc ≤ 1 := by rw [hcc]; unfold cmpN; constructor <;> (repeat' split) <;> omega
        have hwr : IntKind.i64.wrap (-cc) = -cc := by rw [IntKind.wrap_i64]; omega
        rw [← hx1] at M1 C1
        rw [← hx2] at M2 C1
        rw [← ha1, ← hd2] at M1
        rw [← ha2, ← hd1] at M2
        rw [← ha1, ← ha2, ← hd1, ← hd2] at HS
        have HB := Lib.hid hB
        have hb0 := Lib.hid (Below.refl (w.heap.size + 1 + 1) wc)
        obtain ⟨c0, _, _, e0, _, _⟩ := HS.out _ hb0.out
        clear HF1 HF2 hlM1 hlM2 hz1 hz2 hq1 hq2 hs1 hs2 ht1 ht2 ha1 ha2 hd1 hd2 hx1 hx2 kp kq hB hn1 hn2 hcc hcl
        go_wp2_with fail
        clear c0 e0
        go_region_held3 (fun w' => w'.cell? ⟨w.heap.size, 0, none⟩ = some (.bool false) ∧ w'.cell? ⟨w.heap.size, 1, none⟩ = some (.string a1) ∧ w'.cell? ⟨w.heap.size, 2, none⟩ = some (.string d1) ∧ w'.cell? ⟨w.heap.size + 1, 0, none⟩ = some (.bool false) ∧ w'.cell? ⟨w.heap.size + 1, 1, none⟩ = some (.string a2) ∧ w'.cell? ⟨w.heap.size + 1, 2, none⟩ = some (.string d2))
          (with_reducible (first
            | exact HS.out _ hr4
            | exact HS.out _ hr3
            | exact HS.out _ hb0.out.drew))
          (first
            | (go_at_call_of 70 (Value.string a1); refine (M1.out _).mono ?_; rintro e w3 ⟨rfl, hb3⟩; have hr3 := hb0.out.drew.trans (hb3.mono (show w.heap.size + 1 + 1 ≤ wc.heap.size by omega)))
            | (go_at_call_of 70 (Value.string a2); refine (M2.out _).mono ?_; rintro e w4 ⟨rfl, hb4⟩; have hr4 := hr3.trans (hb4.mono (by have := hr3.size; omega)))
            | (go_at_call 69; refine (C1.out _).mono ?_; rintro e w5 ⟨rfl, rfl⟩))
        rename_i hHeld
        clear hHeld
        obtain ⟨c0, _, _, _, _, _⟩ := HS.out _ hr4
        have hfin : Below w.heap.size w w4 := HB.out.trans (hr4.mono (by omega))
        clear hb3 hb4 hr3 hr4 M1 M2 C1 HS
        go_wp2
        go_ret
        exact ⟨by rw [HP.out]; simp, hfin⟩
      · have HP := Lib.hid (cmpQ_pos hn1 hn2)
        rw [hn1] at c0
        rw [hn2] at e0
        clear HF1 HF2 kp kq hn1 hn2
        go_wp2
        go_ret
        exact ⟨by rw [HP.out]; rfl, hB⟩
    · cases hn2 : qn q2
      · have HP := Lib.hid (cmpQ_neg hn1 hn2)
        rw [hn1] at c0
        rw [hn2] at e0
        clear HF1 HF2 kp kq hn1 hn2
        go_wp2
        go_ret
        exact ⟨by rw [HP.out]; rfl, hB⟩
      · clear c0 e0
        have hsz := kq.lt
        have M1 := Lib.hid (fun W => mul_any W (natS q1.num.natAbs) (natS q2.den) (by have := qs_size q1; unfold qs at this; omega) (by have := qt_size q2; unfold qt at this; omega))
        simp only [sval_natS] at M1
        have hlM1 := natL_len_mul q1.num.natAbs q2.den
        rw [show natS q1.num.natAbs = qs q1 from rfl, show natS q2.den = qt q2 from rfl] at M1
        have M2 := Lib.hid (fun W => mul_any W (natS q2.num.natAbs) (natS q1.den) (by have := qs_size q2; unfold qs at this; omega) (by have := qt_size q1; unfold qt at this; omega))
        simp only [sval_natS] at M2
        have hlM2 := natL_len_mul q2.num.natAbs q1.den
        rw [show natS q2.num.natAbs = qs q2 from rfl, show natS q1.den = qt q1 from rfl] at M2
        have HS := Lib.hid (show ∀ w', Below (w.heap.size + 1 + 1) wc w' → w'.cell? ⟨w.heap.size, 0, none⟩ = some (.bool (qn q1)) ∧ w'.cell? ⟨w.heap.size, 1, none⟩ = some (.string (qs q1)) ∧ w'.cell? ⟨w.heap.size, 2, none⟩ = some (.string (qt q1)) ∧ w'.cell? ⟨w.heap.size + 1, 0, none⟩ = some (.bool (qn q2)) ∧ w'.cell? ⟨w.heap.size + 1, 1, none⟩ = some (.string (qs q2)) ∧ w'.cell? ⟨w.heap.size + 1, 2, none⟩ = some (.string (qt q2)) from fun w' hb => by
          obtain ⟨h1, h2, h3, _⟩ := (kp.below hb (by omega)).facts
          obtain ⟨h4, h5, h6, _⟩ := (kq.below hb (by omega)).facts
          exact ⟨h1, h2, h3, h4, h5, h6⟩)
        have C1 := Lib.hid (fun W => cmp_any W (natS (q1.num.natAbs * q2.den)) (natS (q2.num.natAbs * q1.den)) (by rw [natS_size]; unfold qz at hz1 hz2; omega) (by rw [natS_size]; unfold qz at hz1 hz2; omega))
        rw [sval_natS, sval_natS] at C1
        have HP := Lib.hid (cmpQ_same hn1 hn2)
        rw [hn1, hn2] at HS
        obtain ⟨a1, ha1⟩ : ∃ x, x = qs q1 := ⟨_, rfl⟩
        obtain ⟨a2, ha2⟩ : ∃ x, x = qs q2 := ⟨_, rfl⟩
        obtain ⟨d1, hd1⟩ : ∃ x, x = qt q1 := ⟨_, rfl⟩
        obtain ⟨d2, hd2⟩ : ∃ x, x = qt q2 := ⟨_, rfl⟩
        obtain ⟨x1, hx1⟩ : ∃ x, x = natS (q1.num.natAbs * q2.den) := ⟨_, rfl⟩
        obtain ⟨x2, hx2⟩ : ∃ x, x = natS (q2.num.natAbs * q1.den) := ⟨_, rfl⟩
        obtain ⟨cc, hcc⟩ : ∃ x, x = cmpN (q1.num.natAbs * q2.den) (q2.num.natAbs * q1.den) := ⟨_, rfl⟩
        rw [← hcc] at C1 HP
        have hcl : -1 ≤ cc ∧ cc ≤ 1 := by rw [hcc]; unfold cmpN; constructor <;> (repeat' split) <;> omega
        have hwr : IntKind.i64.wrap (-cc) = -cc := by rw [IntKind.wrap_i64]; omega
        rw [← hx1] at M1 C1
        rw [← hx2] at M2 C1
        rw [← ha1, ← hd2] at M1
        rw [← ha2, ← hd1] at M2
        rw [← ha1, ← ha2, ← hd1, ← hd2] at HS
        have HB := Lib.hid hB
        have hb0 := Lib.hid (Below.refl (w.heap.size + 1 + 1) wc)
        obtain ⟨c0, _, _, e0, _, _⟩ := HS.out _ hb0.out
        clear HF1 HF2 hlM1 hlM2 hz1 hz2 hq1 hq2 hs1 hs2 ht1 ht2 ha1 ha2 hd1 hd2 hx1 hx2 kp kq hB hn1 hn2 hcc hcl
        go_wp2_with fail
        clear c0 e0
        go_region_held3 (fun w' => w'.cell? ⟨w.heap.size, 0, none⟩ = some (.bool true) ∧ w'.cell? ⟨w.heap.size, 1, none⟩ = some (.string a1) ∧ w'.cell? ⟨w.heap.size, 2, none⟩ = some (.string d1) ∧ w'.cell? ⟨w.heap.size + 1, 0, none⟩ = some (.bool true) ∧ w'.cell? ⟨w.heap.size + 1, 1, none⟩ = some (.string a2) ∧ w'.cell? ⟨w.heap.size + 1, 2, none⟩ = some (.string d2))
          (with_reducible (first
            | exact HS.out _ hr4
            | exact HS.out _ hr3
            | exact HS.out _ hb0.out.drew))
          (first
            | (go_at_call_of 70 (Value.string a1); refine (M1.out _).mono ?_; rintro e w3 ⟨rfl, hb3⟩; have hr3 := hb0.out.drew.trans (hb3.mono (show w.heap.size + 1 + 1 ≤ wc.heap.size by omega)))
            | (go_at_call_of 70 (Value.string a2); refine (M2.out _).mono ?_; rintro e w4 ⟨rfl, hb4⟩; have hr4 := hr3.trans (hb4.mono (by have := hr3.size; omega)))
            | (go_at_call 69; refine (C1.out _).mono ?_; rintro e w5 ⟨rfl, rfl⟩))
        rename_i hHeld
        clear hHeld
        obtain ⟨c0, _, _, _, _, _⟩ := HS.out _ hr4
        have hfin : Below w.heap.size w w4 := HB.out.trans (hr4.mono (by omega))
        clear hb3 hb4 hr3 hr4 M1 M2 C1 HS
        go_wp2
        go_ret
        exact ⟨by rw [HP.out]; simp, hfin⟩
end Go.Proofs.YtnnbnecpcppkdaaDoor
namespace Go.Proofs.YtnnbnecpcppkdaaDoor
open Go.RowKit Go.Gy
set_option linter.unusedVariables false
theorem qs_empty (q : Rat) : (qs q).toList.isEmpty = decide (q = 0) := by
  unfold qs
  rw [natS_empty, Bool.eq_iff_iff, decide_eq_true_iff, decide_eq_true_iff, Int.natAbs_eq_zero, Rat.num_eq_zero]
theorem parts_neg (q : Rat) : QV (-q) = .agg #[.bool (!qn q && decide (q ≠ 0)), .string (qs q), .string (qt q)] := by
  have h1 : qn (-q) = (!qn q && decide (q ≠ 0)) := by
    unfold qn
    rw [Rat.neg_num, Bool.eq_iff_iff, Bool.and_eq_true, Bool.not_eq_true', decide_eq_true_iff, decide_eq_false_iff_not, decide_eq_true_iff, ne_eq, ← Rat.num_eq_zero]
    omega
  unfold QV
  rw [h1]
  unfold qs qt
  rw [Rat.neg_num, Int.natAbs_neg, Rat.neg_den]
/-- the absolute value -/
def absQ (q : Rat) : Rat := if q < 0 then -q else q
theorem qn_iff (q : Rat) : qn q = true ↔ q < 0 := by
  unfold qn
  rw [decide_eq_true_iff, Rat.lt_iff]
  simp
theorem parts_abs (q : Rat) : QV (absQ q) = .agg #[.bool false, .string (qs q), .string (qt q)] := by
  unfold absQ
  by_cases h : q < 0
  · rw [if_pos h, parts_neg, (qn_iff q).mpr h]; rfl
  · rw [if_neg h]
    unfold QV
    rw [show qn q = false from Bool.eq_false_iff.mpr (fun h1 => h ((qn_iff q).mp h1))]
/-- the sign -/
def signQ (q : Rat) : Int := if q = 0 then 0 else if q < 0 then -1 else 1
set_option maxRecDepth 100000 in
set_option maxHeartbeats 4000000 in
theorem negq_any (w : World) (n : Bool) (s t : ByteArray) (q : Rat) (hq : fitQ n s t = q) (hs : s.size ≤ 8796093022208) (ht : t.size ≤ 8796093022208) (hT : TabW w) :
    Calls Tryd.prog 18 #[.agg #[.bool n, .string s, .string t]] w fun e w' => e = .returned (QV (-q)) ∧ Below w.heap.size w w' := by
  have HF := Lib.hid (fun W hW => fit_any W n s t (by omega) (by omega) (TabW.below (w' := W) hT hW))
  rw [hq] at HF
  unfold QV at HF
  clear hT hs ht hq
  have he := qs_empty q
  have HP := Lib.hid (parts_neg q)
  obtain ⟨b, hb⟩ : ∃ x, x = qn q := ⟨_, rfl⟩
  obtain ⟨a, ha⟩ : ∃ x, x = qs q := ⟨_, rfl⟩
  obtain ⟨d, hd⟩ : ∃ x, x = qt q := ⟨_, rfl⟩
  rw [← ha] at he
  rw [← hb, ← ha, ← hd] at HP HF
  clear hb ha hd
  cases b
  · by_cases h0 : q = 0
    · rw [decide_eq_true h0] at he
      have HV := Lib.hid (show Value.agg #[.bool false, .string a, .string d] = QV (-q) by rw [HP.out, decide_eq_false (not_not_intro h0)]; rfl)
      clear h0 HP
      obtain ⟨k0, k1, hB, hz⟩ := R3.two w n s t false { data := #[] } { data := #[] }
      go_enter Tryd.func18, Tryd.ntmps18
      go_wp2_with fail
      generalize (w.alloc _).alloc _ = w1 at k0 k1 hB hz ⊢
      refine (HF.out _ hB).mono ?_
      rintro e w2 ⟨rfl, hb2⟩
      replace k0 := k0.below hb2 (by omega)
      replace k1 := k1.below hb2 (by omega)
      obtain ⟨_, _, _, g0, g1, g2⟩ := k0.facts
      obtain ⟨_, _, _, f0, f1, f2⟩ := k1.facts
      have hfin := hB.trans (hb2.mono hB.size)
      have HZ := Lib.hid (((k1.far3 (b := w.heap.size) (by omega) (.bool false) (.string a) (.string d)).far (p := ⟨w.heap.size, 0, none⟩) (by simp) (.bool false)).put false a d)
      clear hb2 k0 k1 HF hB
      go_wp2
      refine bodyPost_ret (results_cell_row Tryd.results18 _ _ (w.heap.size + 1) 25 _ (0, 0) _ rfl HZ.out Tryd.underlying25 rfl (by kernel_rfl)) rfl ?_
      exact ⟨congrArg Ending.returned HV.out, (((((((hfin.setCell (by simp) _).setCell (by simp) _).setCell (by simp) _).setCell (by simp) _).setCell (by simp) _).setCell (by simp) _).setCell (by simp) _)⟩
    · rw [decide_eq_false h0] at he
      have HV := Lib.hid (show Value.agg #[.bool true, .string a, .string d] = QV (-q) by rw [HP.out, decide_eq_true h0]; rfl)
      clear h0 HP
      obtain ⟨k0, k1, hB, hz⟩ := R3.two w n s t false { data := #[] } { data := #[] }
      go_enter Tryd.func18, Tryd.ntmps18
      go_wp2_with fail
      generalize (w.alloc _).alloc _ = w1 at k0 k1 hB hz ⊢
      refine (HF.out _ hB).mono ?_
      rintro e w2 ⟨rfl, hb2⟩
      replace k0 := k0.below hb2 (by omega)
      replace k1 := k1.below hb2 (by omega)
      obtain ⟨_, _, _, g0, g1, g2⟩ := k0.facts
      obtain ⟨_, _, _, f0, f1, f2⟩ := k1.facts
      have hfin := hB.trans (hb2.mono hB.size)
      have HZ := Lib.hid (((k1.far3 (b := w.heap.size) (by omega) (.bool false) (.string a) (.string d)).far (p := ⟨w.heap.size, 0, none⟩) (by simp) (.bool true)).put true a d)
      clear hb2 k0 k1 HF hB
      go_wp2
      refine bodyPost_ret (results_cell_row Tryd.results18 _ _ (w.heap.size + 1) 25 _ (0, 0) _ rfl HZ.out Tryd.underlying25 rfl (by kernel_rfl)) rfl ?_
      exact ⟨congrArg Ending.returned HV.out, (((((((hfin.setCell (by simp) _).setCell (by simp) _).setCell (by simp) _).setCell (by simp) _).setCell (by simp) _).setCell (by simp) _).setCell (by simp) _)⟩
  · have HV := Lib.hid (show Value.agg #[.bool false, .string a, .string d] = QV (-q) by rw [HP.out]; rfl)
    clear he HP
    obtain ⟨k0, k1, hB, hz⟩ := R3.two w n s t false { data := #[] } { data := #[] }
    go_enter Tryd.func18, Tryd.ntmps18
    go_wp2_with fail
    generalize (w.alloc _).alloc _ = w1 at k0 k1 hB hz ⊢
    refine (HF.out _ hB).mono ?_
    rintro e w2 ⟨rfl, hb2⟩
    replace k0 := k0.below hb2 (by omega)
    replace k1 := k1.below hb2 (by omega)
    obtain ⟨_, _, _, g0, g1, g2⟩ := k0.facts
    obtain ⟨_, _, _, f0, f1, f2⟩ := k1.facts
    have hfin := hB.trans (hb2.mono hB.size)
    have HZ := Lib.hid (((k1.far3 (b := w.heap.size) (by omega) (.bool true) (.string a) (.string d)).far (p := ⟨w.heap.size, 0, none⟩) (by simp) (.bool false)).put false a d)
    clear hb2 k0 k1 HF hB
    go_wp2
    refine bodyPost_ret (results_cell_row Tryd.results18 _ _ (w.heap.size + 1) 25 _ (0, 0) _ rfl HZ.out Tryd.underlying25 rfl (by kernel_rfl)) rfl ?_
    exact ⟨congrArg Ending.returned HV.out, (((((((hfin.setCell (by simp) _).setCell (by simp) _).setCell (by simp) _).setCell (by simp) _).setCell (by simp) _).setCell (by simp) _).setCell (by simp) _)⟩
set_option maxRecDepth 100000 in
set_option maxHeartbeats 4000000 in
theorem absq_any (w : World) (n : Bool) (s t : ByteArray) (q : Rat) (hq : fitQ n s t = q) (hs : s.size ≤ 8796093022208) (ht : t.size ≤ 8796093022208) (hT : TabW w) :
    Calls Tryd.prog 46 #[.agg #[.bool n, .string s, .string t]] w fun e w' => e = .returned (QV (absQ q)) ∧ Below w.heap.size w w' := by
  have HF := Lib.hid (fun W hW => fit_any W n s t (by omega) (by omega) (TabW.below (w' := W) hT hW))
  rw [hq] at HF
  unfold QV at HF
  clear hT hs ht hq
  have HV := Lib.hid (parts_abs q).symm
  obtain ⟨b, hb⟩ : ∃ x, x = qn q := ⟨_, rfl⟩
  obtain ⟨a, ha⟩ : ∃ x, x = qs q := ⟨_, rfl⟩
  obtain ⟨d, hd⟩ : ∃ x, x = qt q := ⟨_, rfl⟩
  rw [← ha, ← hd] at HV
  rw [← hb, ← ha, ← hd] at HF
  clear hb ha hd
  obtain ⟨k0, k1, hB, hz⟩ := R3.two w n s t false { data := #[] } { data := #[] }
  go_enter Tryd.func46, Tryd.ntmps46
  go_wp2_with fail
  generalize (w.alloc _).alloc _ = w1 at k0 k1 hB hz ⊢
  refine (HF.out _ hB).mono ?_
  rintro e w2 ⟨rfl, hb2⟩
  replace k0 := k0.below hb2 (by omega)
  replace k1 := k1.below hb2 (by omega)
  obtain ⟨_, _, _, g0, g1, g2⟩ := k0.facts
  obtain ⟨_, _, _, f0, f1, f2⟩ := k1.facts
  have hfin := hB.trans (hb2.mono hB.size)
  have HZ := Lib.hid (((k1.far3 (b := w.heap.size) (by omega) (.bool b) (.string a) (.string d)).far (p := ⟨w.heap.size, 0, none⟩) (by simp) (.bool false)).put false a d)
  clear hb2 k0 k1 HF hB
  go_wp2
  refine bodyPost_ret (results_cell_row Tryd.results46 _ _ (w.heap.size + 1) 25 _ (0, 0) _ rfl HZ.out Tryd.underlying25 rfl (by kernel_rfl)) rfl ?_
  exact ⟨congrArg Ending.returned HV.out, (((((((hfin.setCell (by simp) _).setCell (by simp) _).setCell (by simp) _).setCell (by simp) _).setCell (by simp) _).setCell (by simp) _).setCell (by simp) _)⟩
set_option maxRecDepth 100000 in
set_option maxHeartbeats 4000000 in
theorem signq_any (w : World) (n : Bool) (s t : ByteArray) (q : Rat) (hq : fitQ n s t = q) (hs : s.size ≤ 8796093022208) (ht : t.size ≤ 8796093022208) (hT : TabW w) :
    Calls Tryd.prog 33 #[.agg #[.bool n, .string s, .string t]] w fun e w' => e = .returned (.int .i64 (signQ q)) ∧ Below w.heap.size w w' := by
  have HF := Lib.hid (fun W hW => fit_any W n s t (by omega) (by omega) (TabW.below (w' := W) hT hW))
  rw [hq] at HF
  unfold QV at HF
  clear hT hs ht hq
  have hB : Below w.heap.size w (w.alloc (.cells #[.bool n, .string s, .string t] 25)) := (Below.refl w.heap.size w).alloc (Nat.le_refl _) _
  have k0 := R3.new w n s t
  have he := qs_empty q
  have hn := qn_iff q
  obtain ⟨b, hb⟩ : ∃ x, x = qn q := ⟨_, rfl⟩
  obtain ⟨a, ha⟩ : ∃ x, x = qs q := ⟨_, rfl⟩
  obtain ⟨d, hd⟩ : ∃ x, x = qt q := ⟨_, rfl⟩
  rw [← ha] at he
  rw [← hb] at hn
  rw [← hb, ← ha, ← hd] at HF
  clear hb ha hd
  by_cases h0 : q = 0
  · rw [decide_eq_true h0] at he
    have HP := Lib.hid (show (0 : Int) = signQ q by unfold signQ; rw [if_pos h0])
    clear h0 hn
    go_enter Tryd.func33, Tryd.ntmps33
    go_wp2_with fail
    generalize w.alloc _ = w1 at k0 hB ⊢
    refine (HF.out _ hB).mono ?_
    rintro e w2 ⟨rfl, hb2⟩
    replace k0 := k0.below hb2 k0.lt
    obtain ⟨_, _, _, g0, g1, g2⟩ := k0.facts
    have hfin := hB.trans (hb2.mono hB.size)
    clear hb2 k0 HF hB
    go_wp2
    go_ret
    exact ⟨congrArg (fun x => Ending.returned (.int .i64 x)) HP.out, ((hfin.setCell (by simp) _).setCell (by simp) _).setCell (by simp) _⟩
  · rw [decide_eq_false h0] at he
    cases b
    · have HP := Lib.hid (show (1 : Int) = signQ q by unfold signQ; rw [if_neg h0, if_neg (fun h => by cases hn.mpr h)])
      clear h0 hn
      go_enter Tryd.func33, Tryd.ntmps33
      go_wp2_with fail
      generalize w.alloc _ = w1 at k0 hB ⊢
      refine (HF.out _ hB).mono ?_
      rintro e w2 ⟨rfl, hb2⟩
      replace k0 := k0.below hb2 k0.lt
      obtain ⟨_, _, _, g0, g1, g2⟩ := k0.facts
      have hfin := hB.trans (hb2.mono hB.size)
      clear hb2 k0 HF hB
      go_wp2
      go_ret
      exact ⟨congrArg (fun x => Ending.returned (.int .i64 x)) HP.out, ((hfin.setCell (by simp) _).setCell (by simp) _).setCell (by simp) _⟩
    · have HP := Lib.hid (show (-1 : Int) = signQ q by unfold signQ; rw [if_neg h0, if_pos (hn.mp rfl)])
      clear h0 hn
      go_enter Tryd.func33, Tryd.ntmps33
      go_wp2_with fail
      generalize w.alloc _ = w1 at k0 hB ⊢
      refine (HF.out _ hB).mono ?_
      rintro e w2 ⟨rfl, hb2⟩
      replace k0 := k0.below hb2 k0.lt
      obtain ⟨_, _, _, g0, g1, g2⟩ := k0.facts
      have hfin := hB.trans (hb2.mono hB.size)
      clear hb2 k0 HF hB
      go_wp2
      go_ret
      exact ⟨congrArg (fun x => Ending.returned (.int .i64 x)) HP.out, ((hfin.setCell (by simp) _).setCell (by simp) _).setCell (by simp) _⟩
end Go.Proofs.YtnnbnecpcppkdaaDoor
namespace Go.Proofs.YtnnbnecpcppkdaaDoor
open Go.RowKit Go.Gy
set_option linter.unusedVariables false
/-- the lesser one, the greater one -/
def minQ (a b : Rat) : Rat := if b < a then b else a
def maxQ (a b : Rat) : Rat := if a < b then b else a
theorem cmpQ_le (a b : Rat) : cmpQ a b ≤ 0 ↔ ¬ b < a := by
  unfold cmpQ
  by_cases h1 : a < b
  · rw [if_pos h1]; exact ⟨fun _ => by grind, fun _ => by decide⟩
  · rw [if_neg h1]
    by_cases h2 : b < a
    · rw [if_pos h2]; exact ⟨fun h => absurd h (by decide), fun h => absurd h2 h⟩
    · rw [if_neg h2]; exact ⟨fun _ => h2, fun _ => by decide⟩
theorem cmpQ_ge (a b : Rat) : 0 ≤ cmpQ a b ↔ ¬ a < b := by
  unfold cmpQ
  by_cases h1 : a < b
  · rw [if_pos h1]; exact ⟨fun h => absurd h (by decide), fun h => absurd h1 h⟩
  · rw [if_neg h1]
    exact ⟨fun _ => h1, fun _ => by split <;> decide⟩
/-- the order's value as a number -/
theorem cmpQ_range (a b : Rat) : -1 ≤ cmpQ a b ∧ cmpQ a b ≤ 1 := by
  unfold cmpQ
  constructor <;> (repeat' split) <;> decide
set_option maxRecDepth 100000 in
set_option maxHeartbeats 4000000 in
theorem minq_any (w : World) (n1 : Bool) (s1 t1 : ByteArray) (n2 : Bool) (s2 t2 : ByteArray) (q1 q2 : Rat) (hq1 : fitQ n1 s1 t1 = q1) (hq2 : fitQ n2 s2 t2 = q2) (hs1 : s1.size ≤ 1099511627776) (ht1 : t1.size ≤ 1099511627776) (hs2 : s2.size ≤ 1099511627776) (ht2 : t2.size ≤ 1099511627776) (hT : TabW w) :
    Calls Tryd.prog 25 #[.agg #[.bool n1, .string s1, .string t1], .agg #[.bool n2, .string s2, .string t2]] w fun e w' => e = .returned (QV (minQ q1 q2)) ∧ Below w.heap.size w w' := by
  have HTW := Lib.hid (fun W hW => TabW.below (w' := W) hT hW)
  have HC := Lib.hid (fun W hW => cmpq_any W n1 s1 t1 n2 s2 t2 q1 q2 hq1 hq2 hs1 ht1 hs2 ht2 (HTW.out W hW))
  have HF1 := Lib.hid (fun W hW => fit_any W n1 s1 t1 (by omega) (by omega) (HTW.out W hW))
  have HF2 := Lib.hid (fun W hW => fit_any W n2 s2 t2 (by omega) (by omega) (HTW.out W hW))
  rw [hq1] at HF1
  rw [hq2] at HF2
  unfold QV at HF1 HF2
  have hle := cmpQ_le q1 q2
  obtain ⟨k0, k1, k2, hB⟩ := R3.three w n1 s1 t1 n2 s2 t2
  obtain ⟨c, hc⟩ : ∃ c, c = cmpQ q1 q2 := ⟨_, rfl⟩
  rw [← hc] at HC hle
  clear hc hT hq1 hq2
  by_cases h : c ≤ 0
  · have HV := Lib.hid (show QV q1 = QV (minQ q1 q2) by unfold minQ; rw [if_neg (hle.mp h)])
    have HI := Lib.hid (show (Value.agg #[.bool (qn q1), .string (qs q1), .string (qt q1)]) = QV q1 from rfl)
    obtain ⟨b, hb⟩ : ∃ x, x = qn q1 := ⟨_, rfl⟩
    obtain ⟨a, ha⟩ : ∃ x, x = qs q1 := ⟨_, rfl⟩
    obtain ⟨d, hd⟩ : ∃ x, x = qt q1 := ⟨_, rfl⟩
    rw [← hb, ← ha, ← hd] at HF1 HI
    have hcx : c ≤ 0 := h
    clear hb ha hd hle
    go_enter Tryd.func25, Tryd.ntmps25
    go_wp2_with fail
    generalize ((w.alloc _).alloc _).alloc _ = w1 at k0 k1 k2 hB ⊢
    refine (HC.out _ hB).mono ?_
    rintro e w2 ⟨rfl, hb2⟩
    replace k0 := k0.below hb2 k0.lt
    replace k1 := k1.below hb2 k1.lt
    replace k2 := k2.below hb2 k2.lt
    replace hB := hB.trans (hb2.mono hB.size)
    obtain ⟨a0, a1, a2, _, _, _⟩ := k0.facts
    have HB := Lib.hid hB
    clear hb2 k0 k1 hB HC
    go_wp2_with fail
    refine (HF1.out _ HB.out).mono ?_
    rintro e w3 ⟨rfl, hb3⟩
    replace k2 := k2.below hb3 k2.lt
    have hfin := HB.out.trans (hb3.mono HB.out.size)
    obtain ⟨_, _, _, f0, f1, f2⟩ := k2.facts
    have HZ := Lib.hid (k2.put b a d)
    clear hb3 a0 a1 a2 k2 HF1 HF2
    go_wp2
    refine bodyPost_ret (results_cell_row Tryd.results25 _ _ (w.heap.size + 2) 25 _ (0, 0) _ rfl HZ.out Tryd.underlying25 rfl (by kernel_rfl)) rfl ?_
    exact ⟨congrArg Ending.returned (HI.out.trans HV.out), ((hfin.setCell (by simp; omega) _).setCell (by simp; omega) _).setCell (by simp; omega) _⟩
  · have HV := Lib.hid (show QV q2 = QV (minQ q1 q2) by unfold minQ; rw [if_pos (Decidable.not_not.mp (fun h1 => h (hle.mpr h1)))])
    have HI := Lib.hid (show (Value.agg #[.bool (qn q2), .string (qs q2), .string (qt q2)]) = QV q2 from rfl)
    obtain ⟨b, hb⟩ : ∃ x, x = qn q2 := ⟨_, rfl⟩
    obtain ⟨a, ha⟩ : ∃ x, x = qs q2 := ⟨_, rfl⟩
    obtain ⟨d, hd⟩ : ∃ x, x = qt q2 := ⟨_, rfl⟩
    rw [← hb, ← ha, ← hd] at HF2 HI
    have hcx : ¬ c ≤ 0 := h
    clear hb ha hd hle
    go_enter Tryd.func25, Tryd.ntmps25
    go_wp2_with fail
    generalize ((w.alloc _).alloc _).alloc _ = w1 at k0 k1 k2 hB ⊢
    refine (HC.out _ hB).mono ?_
    rintro e w2 ⟨rfl, hb2⟩
    replace k0 := k0.below hb2 k0.lt
    replace k1 := k1.below hb2 k1.lt
    replace k2 := k2.below hb2 k2.lt
    replace hB := hB.trans (hb2.mono hB.size)
    obtain ⟨a0, a1, a2, _, _, _⟩ := k1.facts
    have HB := Lib.hid hB
    clear hb2 k0 k1 hB HC
    go_wp2_with fail
    refine (HF2.out _ HB.out).mono ?_
    rintro e w3 ⟨rfl, hb3⟩
    replace k2 := k2.below hb3 k2.lt
    have hfin := HB.out.trans (hb3.mono HB.out.size)
    obtain ⟨_, _, _, f0, f1, f2⟩ := k2.facts
    have HZ := Lib.hid (k2.put b a d)
    clear hb3 a0 a1 a2 k2 HF1 HF2
    go_wp2
    refine bodyPost_ret (results_cell_row Tryd.results25 _ _ (w.heap.size + 2) 25 _ (0, 0) _ rfl HZ.out Tryd.underlying25 rfl (by kernel_rfl)) rfl ?_
    exact ⟨congrArg Ending.returned (HI.out.trans HV.out), ((hfin.setCell (by simp; omega) _).setCell (by simp; omega) _).setCell (by simp; omega) _⟩
set_option maxRecDepth 100000 in
set_option maxHeartbeats 4000000 in
theorem maxq_any (w : World) (n1 : Bool) (s1 t1 : ByteArray) (n2 : Bool) (s2 t2 : ByteArray) (q1 q2 : Rat) (hq1 : fitQ n1 s1 t1 = q1) (hq2 : fitQ n2 s2 t2 = q2) (hs1 : s1.size ≤ 1099511627776) (ht1 : t1.size ≤ 1099511627776) (hs2 : s2.size ≤ 1099511627776) (ht2 : t2.size ≤ 1099511627776) (hT : TabW w) :
    Calls Tryd.prog 26 #[.agg #[.bool n1, .string s1, .string t1], .agg #[.bool n2, .string s2, .string t2]] w fun e w' => e = .returned (QV (maxQ q1 q2)) ∧ Below w.heap.size w w' := by
  have HTW := Lib.hid (fun W hW => TabW.below (w' := W) hT hW)
  have HC := Lib.hid (fun W hW => cmpq_any W n1 s1 t1 n2 s2 t2 q1 q2 hq1 hq2 hs1 ht1 hs2 ht2 (HTW.out W hW))
  have HF1 := Lib.hid (fun W hW => fit_any W n1 s1 t1 (by omega) (by omega) (HTW.out W hW))
  have HF2 := Lib.hid (fun W hW => fit_any W n2 s2 t2 (by omega) (by omega) (HTW.out W hW))
  rw [hq1] at HF1
  rw [hq2] at HF2
  unfold QV at HF1 HF2
  have hle := cmpQ_ge q1 q2
  obtain ⟨k0, k1, k2, hB⟩ := R3.three w n1 s1 t1 n2 s2 t2
  obtain ⟨c, hc⟩ : ∃ c, c = cmpQ q1 q2 := ⟨_, rfl⟩
  rw [← hc] at HC hle
  clear hc hT hq1 hq2
  by_cases h : 0 ≤ c
  · have HV := Lib.hid (show QV q1 = QV (maxQ q1 q2) by unfold maxQ; rw [if_neg (hle.mp h)])
    have HI := Lib.hid (show (Value.agg #[.bool (qn q1), .string (qs q1), .string (qt q1)]) = QV q1 from rfl)
    obtain ⟨b, hb⟩ : ∃ x, x = qn q1 := ⟨_, rfl⟩
    obtain ⟨a, ha⟩ : ∃ x, x = qs q1 := ⟨_, rfl⟩
    obtain ⟨d, hd⟩ : ∃ x, x = qt q1 := ⟨_, rfl⟩
    rw [← hb, ← ha, ← hd] at HF1 HI
    have hcx : c ≥ 0 := h
    clear hb ha hd hle
    go_enter Tryd.func26, Tryd.ntmps26
    go_wp2_with fail
    generalize ((w.alloc _).alloc _).alloc _ = w1 at k0 k1 k2 hB ⊢
    refine (HC.out _ hB).mono ?_
    rintro e w2 ⟨rfl, hb2⟩
    replace k0 := k0.below hb2 k0.lt
    replace k1 := k1.below hb2 k1.lt
    replace k2 := k2.below hb2 k2.lt
    replace hB := hB.trans (hb2.mono hB.size)
    obtain ⟨a0, a1, a2, _, _, _⟩ := k0.facts
    have HB := Lib.hid hB
    clear hb2 k0 k1 hB HC
    go_wp2_with fail
    refine (HF1.out _ HB.out).mono ?_
    rintro e w3 ⟨rfl, hb3⟩
    replace k2 := k2.below hb3 k2.lt
    have hfin := HB.out.trans (hb3.mono HB.out.size)
    obtain ⟨_, _, _, f0, f1, f2⟩ := k2.facts
    have HZ := Lib.hid (k2.put b a d)
    clear hb3 a0 a1 a2 k2 HF1 HF2
    go_wp2
    refine bodyPost_ret (results_cell_row Tryd.results26 _ _ (w.heap.size + 2) 25 _ (0, 0) _ rfl HZ.out Tryd.underlying25 rfl (by kernel_rfl)) rfl ?_
    exact ⟨congrArg Ending.returned (HI.out.trans HV.out), ((hfin.setCell (by simp; omega) _).setCell (by simp; omega) _).setCell (by simp; omega) _⟩
  · have HV := Lib.hid (show QV q2 = QV (maxQ q1 q2) by unfold maxQ; rw [if_pos (Decidable.not_not.mp (fun h1 => h (hle.mpr h1)))])
    have HI := Lib.hid (show (Value.agg #[.bool (qn q2), .string (qs q2), .string (qt q2)]) = QV q2 from rfl)
    obtain ⟨b, hb⟩ : ∃ x, x = qn q2 := ⟨_, rfl⟩
    obtain ⟨a, ha⟩ : ∃ x, x = qs q2 := ⟨_, rfl⟩
    obtain ⟨d, hd⟩ : ∃ x, x = qt q2 := ⟨_, rfl⟩
    rw [← hb, ← ha, ← hd] at HF2 HI
    have hcx : ¬ c ≥ 0 := h
    clear hb ha hd hle
    go_enter Tryd.func26, Tryd.ntmps26
    go_wp2_with fail
    generalize ((w.alloc _).alloc _).alloc _ = w1 at k0 k1 k2 hB ⊢
    refine (HC.out _ hB).mono ?_
    rintro e w2 ⟨rfl, hb2⟩
    replace k0 := k0.below hb2 k0.lt
    replace k1 := k1.below hb2 k1.lt
    replace k2 := k2.below hb2 k2.lt
    replace hB := hB.trans (hb2.mono hB.size)
    obtain ⟨a0, a1, a2, _, _, _⟩ := k1.facts
    have HB := Lib.hid hB
    clear hb2 k0 k1 hB HC
    go_wp2_with fail
    refine (HF2.out _ HB.out).mono ?_
    rintro e w3 ⟨rfl, hb3⟩
    replace k2 := k2.below hb3 k2.lt
    have hfin := HB.out.trans (hb3.mono HB.out.size)
    obtain ⟨_, _, _, f0, f1, f2⟩ := k2.facts
    have HZ := Lib.hid (k2.put b a d)
    clear hb3 a0 a1 a2 k2 HF1 HF2
    go_wp2
    refine bodyPost_ret (results_cell_row Tryd.results26 _ _ (w.heap.size + 2) 25 _ (0, 0) _ rfl HZ.out Tryd.underlying25 rfl (by kernel_rfl)) rfl ?_
    exact ⟨congrArg Ending.returned (HI.out.trans HV.out), ((hfin.setCell (by simp; omega) _).setCell (by simp; omega) _).setCell (by simp; omega) _⟩
set_option maxRecDepth 100000 in
set_option maxHeartbeats 4000000 in
theorem subq_any (w : World) (n1 : Bool) (s1 t1 : ByteArray) (n2 : Bool) (s2 t2 : ByteArray) (q1 q2 : Rat) (hq1 : fitQ n1 s1 t1 = q1) (hq2 : fitQ n2 s2 t2 = q2) (hs1 : s1.size ≤ 1099511627776) (ht1 : t1.size ≤ 1099511627776) (hs2 : s2.size ≤ 1099511627776) (ht2 : t2.size ≤ 1099511627776) (hT : TabW w) :
    Calls Tryd.prog 49 #[.agg #[.bool n1, .string s1, .string t1], .agg #[.bool n2, .string s2, .string t2]] w fun e w' => e = .returned (QV (q1 - q2)) ∧ Below w.heap.size w w' := by
  have HTW := Lib.hid (fun W hW => TabW.below (w' := W) hT hW)
  have hz2 : qz q2 ≤ 1099511627776 := by rw [← hq2]; have := qz_fit n2 s2 t2; omega
  have HN := Lib.hid (fun W hW => negq_any W n2 s2 t2 q2 hq2 (by omega) (by omega) (HTW.out W hW))
  have HA := Lib.hid (fun W hW => addq_any W n1 s1 t1 (qn (-q2)) (qs (-q2)) (qt (-q2)) q1 (-q2) hq1 (fit_parts _) hs1 ht1 (by have := qs_size (-q2); rw [qz_neg] at this; omega) (by have := qt_size (-q2); rw [qz_neg] at this; omega) (HTW.out W hW))
  rw [show q1 + -q2 = q1 - q2 from (Rat.sub_eq_add_neg q1 q2).symm] at HA
  unfold QV at HN HA
  have HI := Lib.hid (show (Value.agg #[.bool (qn (q1 - q2)), .string (qs (q1 - q2)), .string (qt (q1 - q2))]) = QV (q1 - q2) from rfl)
  obtain ⟨b, hb⟩ : ∃ x, x = qn (q1 - q2) := ⟨_, rfl⟩
  obtain ⟨a, ha⟩ : ∃ x, x = qs (q1 - q2) := ⟨_, rfl⟩
  obtain ⟨d, hd⟩ : ∃ x, x = qt (q1 - q2) := ⟨_, rfl⟩
  obtain ⟨nb, hnb⟩ : ∃ x, x = qn (-q2) := ⟨_, rfl⟩
  obtain ⟨na, hna⟩ : ∃ x, x = qs (-q2) := ⟨_, rfl⟩
  obtain ⟨nd, hnd⟩ : ∃ x, x = qt (-q2) := ⟨_, rfl⟩
  rw [← hb, ← ha, ← hd, ← hnb, ← hna, ← hnd] at HA
  rw [← hnb, ← hna, ← hnd] at HN
  rw [← hb, ← ha, ← hd] at HI
  clear hb ha hd hnb hna hnd hz2 hT hs1 ht1 hs2 ht2 hq1 hq2
  obtain ⟨k0, k1, k2, hB⟩ := R3.three w n1 s1 t1 n2 s2 t2
  go_enter Tryd.func49, Tryd.ntmps49
  go_upto_region 1 with (fail)
  generalize ((w.alloc _).alloc _).alloc _ = w1 at k0 k1 k2 hB ⊢
  have HS := Lib.hid (show ∀ w', Below (w.heap.size + 2) w1 w' → w'.cell? ⟨w.heap.size, 0, none⟩ = some (.bool n1) ∧ w'.cell? ⟨w.heap.size, 1, none⟩ = some (.string s1) ∧ w'.cell? ⟨w.heap.size, 2, none⟩ = some (.string t1) ∧ w'.cell? ⟨w.heap.size + 1, 0, none⟩ = some (.bool n2) ∧ w'.cell? ⟨w.heap.size + 1, 1, none⟩ = some (.string s2) ∧ w'.cell? ⟨w.heap.size + 1, 2, none⟩ = some (.string t2) from fun w' hb => by
    obtain ⟨h1, h2, h3, _⟩ := (k0.below hb (by omega)).facts
    obtain ⟨h4, h5, h6, _⟩ := (k1.below hb (by omega)).facts
    exact ⟨h1, h2, h3, h4, h5, h6⟩)
  have hb0 := Lib.hid (Below.refl (w.heap.size + 2) w1)
  have hsz := k2.lt
  have HB := Lib.hid hB
  clear k0 k1 hB
  go_region_held3 (fun w' => w'.cell? ⟨w.heap.size, 0, none⟩ = some (.bool n1) ∧ w'.cell? ⟨w.heap.size, 1, none⟩ = some (.string s1) ∧ w'.cell? ⟨w.heap.size, 2, none⟩ = some (.string t1) ∧ w'.cell? ⟨w.heap.size + 1, 0, none⟩ = some (.bool n2) ∧ w'.cell? ⟨w.heap.size + 1, 1, none⟩ = some (.string s2) ∧ w'.cell? ⟨w.heap.size + 1, 2, none⟩ = some (.string t2))
    (with_reducible (first
      | exact HS.out _ (((hr4.setCell (p := ⟨w.heap.size + 2, 0, none⟩) (Nat.le_refl _) (.bool b)).setCell (p := ⟨w.heap.size + 2, 1, none⟩) (Nat.le_refl _) (.string a)).setCell (p := ⟨w.heap.size + 2, 2, none⟩) (Nat.le_refl _) (.string d))
      | exact HS.out _ hr4
      | exact HS.out _ hr3
      | exact HS.out _ hb0.out.drew))
    (first
      | (go_at_call 18; refine (HN.out _ HB.out.drew).mono ?_; rintro e w3 ⟨rfl, hb3⟩; have hr3 := hb0.out.drew.trans (hb3.mono (show w.heap.size + 2 ≤ w1.heap.size by omega)); have kr3 := k2.drew.below hb3 k2.lt)
      | (go_at_call 43; refine (HA.out _ (HB.out.trans (hr3.mono (by omega)))).mono ?_; rintro e w4 ⟨rfl, hb4⟩; have hr4 := hr3.trans (hb4.mono (by have := hr3.size; omega)); have kr4 := kr3.below hb4 kr3.lt; obtain ⟨_, _, _, f0, f1, f2⟩ := kr4.facts))
  rename_i hHeld
  clear hHeld
  have HZ := Lib.hid (kr4.put b a d)
  have hfin : Below w.heap.size w w4 := HB.out.trans (hr4.mono (by omega))
  clear f0 f1 f2 kr3 kr4 hr3 hr4 hb3 hb4 HN HA HS
  go_wp2
  refine bodyPost_ret (results_cell_row Tryd.results49 _ _ (w.heap.size + 2) 25 _ (0, 0) _ rfl HZ.out Tryd.underlying25 rfl (by kernel_rfl)) rfl ?_
  exact ⟨congrArg Ending.returned HI.out, ((hfin.setCell (by simp; omega) _).setCell (by simp; omega) _).setCell (by simp; omega) _⟩
end Go.Proofs.YtnnbnecpcppkdaaDoor
namespace Go.Proofs.YtnnbnecpcppkdaaDoor
open Go.RowKit Go.Gy
set_option linter.unusedVariables false
theorem divV_parts (a b : Rat) : ∃ n s t, divV a b = .agg #[.bool n, .string s, .string t] := by
  unfold divV
  by_cases h : b = 0
  · rw [if_pos h]; exact ⟨_, _, _, rfl⟩
  · rw [if_neg h]; exact ⟨_, _, _, rfl⟩
theorem qz_int (n : Int) (hn : -9223372036854775808 ≤ n ∧ n ≤ 9223372036854775807) : qz (n : Rat) ≤ 8 := by
  unfold qz
  show max (natL n.natAbs).length (natL 1).length ≤ 8
  rw [natL_len_one]
  have := (natL_len_le n.natAbs 8).mpr (by omega)
  omega
set_option maxRecDepth 100000 in
set_option maxHeartbeats 4000000 in
theorem makeq_any (w : World) (m n : Int) (hm : -9223372036854775808 ≤ m ∧ m ≤ 9223372036854775807) (hn : -9223372036854775808 ≤ n ∧ n ≤ 9223372036854775807) (hT : TabW w) :
    Calls Tryd.prog 73 #[.int .i64 m, .int .i64 n] w fun e w' => e = .returned (.tuple #[divV (m : Rat) (n : Rat), .int .i64 (divE (n : Rat))]) ∧ Below w.heap.size w w' := by
  have hB : Below w.heap.size w (w.alloc (.cells #[.bool false, .string { data := #[] }, .string { data := #[] }] 25)) := (Below.refl w.heap.size w).alloc (Nat.le_refl _) _
  have kr : R3 (w.alloc (.cells #[.bool false, .string { data := #[] }, .string { data := #[] }] 25)) w.heap.size false { data := #[] } { data := #[] } := R3.new w _ _ _
  have HTW := Lib.hid (fun W hW => TabW.below (w' := W) hT hW)
  have O1 := Lib.hid (fun W hW => ofint_any W m hm (HTW.out W hW))
  have O2 := Lib.hid (fun W hW => ofint_any W n hn (HTW.out W hW))
  have z1 := qz_int m hm
  have z2 := qz_int n hn
  have y1 := qs_size (m : Rat)
  have y2 := qt_size (m : Rat)
  have y3 := qs_size (n : Rat)
  have y4 := qt_size (n : Rat)
  have D := Lib.hid (fun W hW => divq_any W (qn m) (qs m) (qt m) (qn n) (qs n) (qt n) m n (fit_parts _) (fit_parts _) (by omega) (by omega) (by omega) (by omega) (HTW.out W hW))
  obtain ⟨dn, ds, dt, hd⟩ := divV_parts m n
  have HI := Lib.hid hd.symm
  rw [hd] at D
  obtain ⟨de, hde⟩ : ∃ x, x = divE (n : Rat) := ⟨_, rfl⟩
  have HE := Lib.hid hde
  rw [← hde] at D
  have hp1 : QV (m : Rat) = .agg #[.bool (qn m), .string (qs m), .string (qt m)] := rfl
  have hp2 : QV (n : Rat) = .agg #[.bool (qn n), .string (qs n), .string (qt n)] := rfl
  obtain ⟨v1, hv1⟩ : ∃ x, x = Value.agg #[.bool (qn m), .string (qs m), .string (qt m)] := ⟨_, rfl⟩
  obtain ⟨v2, hv2⟩ : ∃ x, x = Value.agg #[.bool (qn n), .string (qs n), .string (qt n)] := ⟨_, rfl⟩
  rw [hp1, ← hv1] at O1
  rw [hp2, ← hv2] at O2
  rw [← hv1, ← hv2] at D
  clear hp1 hp2 hv1 hv2 hd hde z1 z2 y1 y2 y3 y4 hm hn hT
  go_enter Tryd.func73, Tryd.ntmps73
  go_wp2_with fail
  generalize w.alloc _ = w1 at kr hB ⊢
  refine (O1.out _ hB).mono ?_
  rintro e w2 ⟨rfl, hb⟩
  replace kr := kr.below hb kr.lt
  replace hB := hB.trans (hb.mono hB.size)
  clear hb O1
  go_wp2_with fail
  refine (O2.out _ hB).mono ?_
  rintro e w3 ⟨rfl, hb⟩
  replace kr := kr.below hb kr.lt
  replace hB := hB.trans (hb.mono hB.size)
  clear hb O2
  go_wp2_with fail
  refine (D.out _ hB).mono ?_
  rintro e w4 ⟨rfl, hb⟩
  replace kr := kr.below hb kr.lt
  replace hB := hB.trans (hb.mono hB.size)
  obtain ⟨_, _, _, f0, f1, f2⟩ := kr.facts
  have HZ := Lib.hid (kr.put dn ds dt)
  clear hb D kr
  go_wp2
  refine bodyPost_ret (results_cell_two Tryd.results73 _ _ w.heap.size 25 #[.bool dn, .string ds, .string dt] (0, 0) _ (.int .i64 de) rfl rfl HZ.out Tryd.underlying25 rfl (by kernel_rfl)) rfl ?_
  exact ⟨by rw [HI.out, HE.out], ((hB.setCell (by simp) _).setCell (by simp) _).setCell (by simp) _⟩
end Go.Proofs.YtnnbnecpcppkdaaDoor
namespace Go.Proofs.YtnnbnecpcppkdaaDoor
open Go.RowKit Go.Gy
set_option linter.unusedVariables false
theorem floor_pos {q : Rat} (h : qn q = false) : q.floor = ((q.num.natAbs / q.den : Nat) : Int) := by
  rw [Rat.floor_def]
  have h1 := qn_sgn q
  rw [h, sgn_false] at h1
  rw [← h1, Int.natAbs_natCast, Int.natCast_ediv]
theorem floor_neg {q : Rat} (h : qn q = true) : q.floor = -(((if q.num.natAbs % q.den = 0 then q.num.natAbs / q.den else q.num.natAbs / q.den + 1) : Nat) : Int) := by
  rw [Rat.floor_def]
  have h1 := qn_sgn q
  rw [h, sgn_true] at h1
  rw [← h1, Int.natAbs_neg, Int.natAbs_natCast]
  generalize q.num.natAbs = x
  have hd := q.den_pos
  generalize q.den = d at hd
  have e := Nat.div_add_mod x d
  have hl := Nat.mod_lt x hd
  generalize x / d = a at e ⊢
  generalize x % d = r at e hl ⊢
  split
  · rename_i hr
    subst hr
    rw [Nat.add_zero] at e
    rw [← e, Int.natCast_mul, ← Int.mul_neg, Int.mul_ediv_cancel_left _ (by omega)]
  · have : (-(x : Int)) = (d : Int) * -((a + 1 : Nat) : Int) + ((d - r : Nat) : Int) := by
      rw [← e, Int.natCast_sub (by omega)]
      simp only [Int.natCast_add, Int.natCast_mul, Int.natCast_one]
      grind
    rw [this, Int.add_comm, Int.add_mul_ediv_left _ _ (by omega), Int.ediv_eq_zero_of_lt (by omega) (by omega), Int.zero_add]
/-- what whole reckons: the absolute value of the floor -/
theorem floor_abs (q : Rat) : q.floor.natAbs = if qn q = true ∧ q.num.natAbs % q.den ≠ 0 then q.num.natAbs / q.den + 1 else q.num.natAbs / q.den := by
  cases h : qn q
  · rw [floor_pos h, Int.natAbs_natCast, if_neg (by simp)]
  · rw [floor_neg h, Int.natAbs_neg, Int.natAbs_natCast]
    by_cases h2 : q.num.natAbs % q.den = 0
    · rw [if_pos h2, if_neg (by simp [h2])]
    · rw [if_neg h2, if_pos ⟨rfl, h2⟩]
theorem floor_sgn (q : Rat) : mkRat (sgn (qn q) q.floor.natAbs) 1 = (q.floor : Rat) := by
  rw [Rat.mkRat_one]
  congr 1
  cases h : qn q
  · rw [floor_pos h, sgn_false, Int.natAbs_natCast]
  · rw [floor_neg h, sgn_true, Int.natAbs_neg, Int.natAbs_natCast]
theorem floor_len (q : Rat) : (natL q.floor.natAbs).length ≤ qz q + 1 := by
  rw [floor_abs]
  have h1 : q.num.natAbs / q.den ≤ q.num.natAbs := Nat.div_le_self _ _
  have h2 := natL_len_mono h1
  have h3 := natL_len_add (q.num.natAbs / q.den) 1
  rw [natL_len_one] at h3
  have h4 := qz_pos q
  unfold qz at *
  split <;> omega
set_option maxRecDepth 100000 in
set_option maxHeartbeats 4000000 in
theorem whole_any (w : World) (q : Rat) (hz : qz q ≤ 2199023255552) (hT : TabW w) :
    Calls Tryd.prog 99 #[.agg #[.bool (qn q), .string (qs q), .string (qt q)]] w fun e w' => e = .returned (QV (q.floor : Rat)) ∧ Below w.heap.size w w' := by
  have HTW := Lib.hid (fun W hW => TabW.below (w' := W) hT hW)
  have y1 := qs_size q
  have y2 := qt_size q
  have D := Lib.hid (show ∀ W, Calls Tryd.prog 116 #[.string (qs q), .string (qt q)] W fun e w' => e = .returned (.tuple #[.string (natS (q.num.natAbs / q.den)), .string (natS (q.num.natAbs % q.den)), .int .i64 0]) ∧ Below W.heap.size W w' from fun W => by
    have h := div_any W (qs q) (qt q) (by omega) (by omega)
    unfold qs qt at h
    rw [sval_natS, sval_natS] at h
    refine h.mono fun e w' h => ?_
    obtain ⟨h1, h2⟩ := h
    unfold divF at h1
    rw [if_neg q.den_nz] at h1
    exact ⟨h1, h2⟩)
  have A1 := Lib.hid (fun W => add_any W (natS (q.num.natAbs / q.den)) (natS 1) (by have := natS_mono (Nat.div_le_self q.num.natAbs q.den); unfold qs at y1; omega) (by rw [natS_size, natL_len_one]; decide))
  rw [sval_natS, sval_natS, natS_one] at A1
  have MD := Lib.hid (fun W hW => made_any W (qn q) q.floor.natAbs 1 (by decide) (by rw [natS_size]; have := floor_len q; omega) (by rw [natS_size, natL_len_one]; decide) (HTW.out W hW))
  rw [floor_sgn, natS_one] at MD
  unfold QV at MD
  have hfa := floor_abs q
  have HV := Lib.hid (show Value.agg #[.bool (qn q.floor), .string (qs q.floor), .string (qt q.floor)] = QV (q.floor : Rat) from rfl)
  have he := natS_empty (q.num.natAbs % q.den)
  obtain ⟨k0, k1, hB, hz⟩ := R3.two w (qn q) (qs q) (qt q) false { data := #[] } { data := #[] }
  obtain ⟨nQ, hnQ⟩ : ∃ x, x = qn q.floor := ⟨_, rfl⟩
  obtain ⟨sQ, hsQ⟩ : ∃ x, x = qs q.floor := ⟨_, rfl⟩
  obtain ⟨tQ, htQ⟩ : ∃ x, x = qt q.floor := ⟨_, rfl⟩
  rw [← hnQ, ← hsQ, ← htQ] at MD HV
  clear hnQ hsQ htQ y1 y2 hT
  cases hq : qn q
  · rw [hq, if_neg (by simp)] at hfa
    rw [hq] at k0 k1 hB MD
    rw [hfa] at MD
    clear hfa A1 hz
    obtain ⟨a, ha⟩ : ∃ x, x = qs q := ⟨_, rfl⟩
    obtain ⟨d, hd⟩ : ∃ x, x = qt q := ⟨_, rfl⟩
    obtain ⟨u, hu⟩ : ∃ x, x = natS (q.num.natAbs / q.den) := ⟨_, rfl⟩
    obtain ⟨r, hr⟩ : ∃ x, x = natS (q.num.natAbs % q.den) := ⟨_, rfl⟩
    rw [← ha, ← hd] at D k0 k1 hB ⊢
    rw [← hu] at D
    rw [← hr] at D he
    clear ha hd
    rw [← hu] at MD
    clear hu hr hq he
    go_enter Tryd.func99, Tryd.ntmps99
    go_wp2_with fail
    generalize (w.alloc _).alloc _ = w1 at k0 k1 hB ⊢
    refine (D.out _).mono ?_
    rintro e w2 ⟨rfl, hb⟩
    replace k0 := k0.below hb k0.lt
    replace k1 := k1.below hb k1.lt
    replace hB := hB.trans (hb.mono hB.size)
    obtain ⟨a0, _, _, _, _, _⟩ := k0.facts
    clear hb D
    go_wp2_with fail
    refine (MD.out _ hB).mono ?_
    rintro e w4 ⟨rfl, hb⟩
    replace k0 := k0.below hb k0.lt
    replace k1 := k1.below hb k1.lt
    replace hB := hB.trans (hb.mono hB.size)
    clear hb a0 MD
    obtain ⟨_, _, _, f0, f1, f2⟩ := k1.facts
    have HZ := Lib.hid (k1.put nQ sQ tQ)
    clear k1 k0
    go_wp2
    refine bodyPost_ret (results_cell_row Tryd.results99 _ _ (w.heap.size + 1) 25 _ (0, 0) _ rfl HZ.out Tryd.underlying25 rfl (by kernel_rfl)) rfl ?_
    exact ⟨congrArg Ending.returned HV.out, ((hB.setCell (by simp) _).setCell (by simp) _).setCell (by simp) _⟩
  · by_cases h0 : q.num.natAbs % q.den = 0
    · rw [hq, if_neg (by simp [h0])] at hfa
      rw [hq] at k0 k1 hB MD
      rw [decide_eq_true h0] at he
      rw [hfa] at MD
      clear hfa A1 hz h0
      obtain ⟨a, ha⟩ : ∃ x, x = qs q := ⟨_, rfl⟩
      obtain ⟨d, hd⟩ : ∃ x, x = qt q := ⟨_, rfl⟩
      obtain ⟨u, hu⟩ : ∃ x, x = natS (q.num.natAbs / q.den) := ⟨_, rfl⟩
      obtain ⟨r, hr⟩ : ∃ x, x = natS (q.num.natAbs % q.den) := ⟨_, rfl⟩
      rw [← ha, ← hd] at D k0 k1 hB ⊢
      rw [← hu] at D
      rw [← hr] at D he
      clear ha hd
      rw [← hu] at MD
      clear hu hr hq
      go_enter Tryd.func99, Tryd.ntmps99
      go_wp2_with fail
      generalize (w.alloc _).alloc _ = w1 at k0 k1 hB ⊢
      refine (D.out _).mono ?_
      rintro e w2 ⟨rfl, hb⟩
      replace k0 := k0.below hb k0.lt
      replace k1 := k1.below hb k1.lt
      replace hB := hB.trans (hb.mono hB.size)
      obtain ⟨a0, _, _, _, _, _⟩ := k0.facts
      clear hb D
      go_wp2_with fail
      refine (MD.out _ hB).mono ?_
      rintro e w4 ⟨rfl, hb⟩
      replace k0 := k0.below hb k0.lt
      replace k1 := k1.below hb k1.lt
      replace hB := hB.trans (hb.mono hB.size)
      clear hb a0 MD
      obtain ⟨_, _, _, f0, f1, f2⟩ := k1.facts
      have HZ := Lib.hid (k1.put nQ sQ tQ)
      clear k1 k0
      go_wp2
      refine bodyPost_ret (results_cell_row Tryd.results99 _ _ (w.heap.size + 1) 25 _ (0, 0) _ rfl HZ.out Tryd.underlying25 rfl (by kernel_rfl)) rfl ?_
      exact ⟨congrArg Ending.returned HV.out, ((hB.setCell (by simp) _).setCell (by simp) _).setCell (by simp) _⟩
    · rw [hq, if_pos ⟨rfl, h0⟩] at hfa
      rw [hq] at k0 k1 hB MD
      rw [decide_eq_false h0] at he
      rw [hfa] at MD
      clear hfa hz h0
      obtain ⟨a, ha⟩ : ∃ x, x = qs q := ⟨_, rfl⟩
      obtain ⟨d, hd⟩ : ∃ x, x = qt q := ⟨_, rfl⟩
      obtain ⟨u, hu⟩ : ∃ x, x = natS (q.num.natAbs / q.den) := ⟨_, rfl⟩
      obtain ⟨r, hr⟩ : ∃ x, x = natS (q.num.natAbs % q.den) := ⟨_, rfl⟩
      rw [← ha, ← hd] at D k0 k1 hB ⊢
      rw [← hu] at D
      rw [← hr] at D he
      clear ha hd
      rw [← hu] at A1
      obtain ⟨v, hv⟩ : ∃ x, x = natS (q.num.natAbs / q.den + 1) := ⟨_, rfl⟩
      rw [← hv] at A1 MD
      clear hu hr hq hv
      go_enter Tryd.func99, Tryd.ntmps99
      go_wp2_with fail
      generalize (w.alloc _).alloc _ = w1 at k0 k1 hB ⊢
      refine (D.out _).mono ?_
      rintro e w2 ⟨rfl, hb⟩
      replace k0 := k0.below hb k0.lt
      replace k1 := k1.below hb k1.lt
      replace hB := hB.trans (hb.mono hB.size)
      obtain ⟨a0, _, _, _, _, _⟩ := k0.facts
      clear hb D
      go_wp2_with fail
      refine (A1.out _).mono ?_
      rintro e w3 ⟨rfl, hb⟩
      clear a0
      replace k0 := k0.below hb k0.lt
      replace k1 := k1.below hb k1.lt
      replace hB := hB.trans (hb.mono hB.size)
      obtain ⟨a0, _, _, _, _, _⟩ := k0.facts
      clear hb A1
      go_wp2_with fail
      refine (MD.out _ hB).mono ?_
      rintro e w4 ⟨rfl, hb⟩
      replace k0 := k0.below hb k0.lt
      replace k1 := k1.below hb k1.lt
      replace hB := hB.trans (hb.mono hB.size)
      clear hb a0 MD
      obtain ⟨_, _, _, f0, f1, f2⟩ := k1.facts
      have HZ := Lib.hid (k1.put nQ sQ tQ)
      clear k1 k0
      go_wp2
      refine bodyPost_ret (results_cell_row Tryd.results99 _ _ (w.heap.size + 1) 25 _ (0, 0) _ rfl HZ.out Tryd.underlying25 rfl (by kernel_rfl)) rfl ?_
      exact ⟨congrArg Ending.returned HV.out, ((hB.setCell (by simp) _).setCell (by simp) _).setCell (by simp) _⟩
/-- what Floor returns -/
def floorN (q : Rat) : Int := if q.floor.natAbs ≤ 9223372036854775807 then q.floor else 0
def floorE (q : Rat) : Nat := if q.floor.natAbs ≤ 9223372036854775807 then 0 else 2
theorem int_num (z : Int) : (z : Rat).num = z := rfl
set_option maxRecDepth 100000 in
set_option maxHeartbeats 4000000 in
theorem floorq_any (w : World) (n : Bool) (s t : ByteArray) (q : Rat) (hq : fitQ n s t = q) (hs : s.size ≤ 1099511627776) (ht : t.size ≤ 1099511627776) (hT : TabW w) :
    Calls Tryd.prog 66 #[.agg #[.bool n, .string s, .string t]] w fun e w' => e = .returned (.tuple #[.int .i64 (floorN q), .int .i64 (floorE q : Nat)]) ∧ Below w.heap.size w w' := by
  have HTW := Lib.hid (fun W hW => TabW.below (w' := W) hT hW)
  have hz : qz q ≤ 1099511627776 := by rw [← hq]; have := qz_fit n s t; omega
  have HF := Lib.hid (fun W hW => fit_any W n s t (by omega) (by omega) (HTW.out W hW))
  have HW := Lib.hid (fun W hW => whole_any W q (by omega) (HTW.out W hW))
  have HI := Lib.hid (fun W => int_any W (qs (q.floor : Rat)) (by have := floor_len q; unfold qs; rw [natS_size, int_num]; omega))
  rw [show sval (qs (q.floor : Rat)) = q.floor.natAbs by unfold qs; rw [sval_natS, int_num]] at HI
  rw [hq] at HF
  unfold QV at HF HW
  have hqn : qn (q.floor : Rat) = decide (q.floor < 0) := rfl
  have HR := Lib.hid (show (if qn (q.floor : Rat) = true then -(((intF q.floor.natAbs).1 : Nat) : Int) else (((intF q.floor.natAbs).1 : Nat) : Int)) = floorN q ∧ (intF q.floor.natAbs).2 = floorE q by
    unfold intF floorN floorE
    rw [hqn]
    by_cases h : q.floor.natAbs ≤ 9223372036854775807
    · simp only [h, if_true]
      refine ⟨?_, trivial⟩
      by_cases h2 : q.floor < 0
      · rw [decide_eq_true h2, if_pos rfl]; omega
      · rw [decide_eq_false h2, if_neg (by decide)]; omega
    · simp only [h, if_false]
      refine ⟨?_, trivial⟩
      split <;> rfl)
  have hir : (intF q.floor.natAbs).1 ≤ 9223372036854775807 := by unfold intF; split <;> omega
  have hB : Below w.heap.size w (w.alloc (.cells #[.bool n, .string s, .string t] 25)) := (Below.refl w.heap.size w).alloc (Nat.le_refl _) _
  have k0 := R3.new w n s t
  obtain ⟨b, hb⟩ : ∃ x, x = qn q := ⟨_, rfl⟩
  obtain ⟨a, ha⟩ : ∃ x, x = qs q := ⟨_, rfl⟩
  obtain ⟨d, hd⟩ : ∃ x, x = qt q := ⟨_, rfl⟩
  obtain ⟨fb, hfb⟩ : ∃ x, x = qn (q.floor : Rat) := ⟨_, rfl⟩
  obtain ⟨fa, hfa⟩ : ∃ x, x = qs (q.floor : Rat) := ⟨_, rfl⟩
  obtain ⟨fd, hfd⟩ : ∃ x, x = qt (q.floor : Rat) := ⟨_, rfl⟩
  obtain ⟨N, hN⟩ : ∃ x, x = (intF q.floor.natAbs).1 := ⟨_, rfl⟩
  obtain ⟨E, hE⟩ : ∃ x, x = (intF q.floor.natAbs).2 := ⟨_, rfl⟩
  rw [← hb, ← ha, ← hd] at HF HW
  rw [← hfb, ← hfa, ← hfd] at HW
  rw [← hfa, ← hN, ← hE] at HI
  rw [← hfb, ← hN, ← hE] at HR
  rw [← hN] at hir
  have hwn : IntKind.i64.wrap (-(N : Int)) = -(N : Int) := by rw [IntKind.wrap_i64]; omega
  clear hb ha hd hfb hfa hfd hN hE hqn hq hz hT hs ht hir
  go_enter Tryd.func66, Tryd.ntmps66
  go_wp2_with fail
  generalize w.alloc _ = w1 at k0 hB ⊢
  refine (HF.out _ hB).mono ?_
  rintro e w2 ⟨rfl, hb⟩
  replace k0 := k0.below hb k0.lt
  replace hB := hB.trans (hb.mono hB.size)
  clear hb HF
  go_wp2_with fail
  refine (HW.out _ hB).mono ?_
  rintro e w3 ⟨rfl, hb⟩
  replace k0 := k0.below hb k0.lt
  replace hB := hB.trans (hb.mono hB.size)
  obtain ⟨_, _, _, f0, f1, f2⟩ := k0.facts
  have k1 := k0.put fb fa fd
  clear hb HW k0
  go_wp2_with fail
  clear f0 f1 f2
  replace hB : Below w.heap.size w (((w3.setCell ⟨w.heap.size, 0, none⟩ (.bool fb)).setCell ⟨w.heap.size, 1, none⟩ (.string fa)).setCell ⟨w.heap.size, 2, none⟩ (.string fd)) := ((hB.setCell (by simp) _).setCell (by simp) _).setCell (by simp) _
  generalize ((w3.setCell _ _).setCell _ _).setCell _ _ = w4 at k1 hB ⊢
  refine (HI.out _).mono ?_
  rintro e w5 ⟨rfl, rfl⟩
  obtain ⟨c0, _, _, _, _, _⟩ := k1.facts
  clear k1 HI
  cases fb
  · go_wp2
    refine bodyPost_ret (results_tmp2 rfl _ _ _) rfl ?_
    exact ⟨by rw [← HR.out.1, ← HR.out.2]; rfl, hB⟩
  · go_wp2
    refine bodyPost_ret (results_tmp2 rfl _ _ _) rfl ?_
    exact ⟨by rw [← HR.out.1, ← HR.out.2]; rfl, hB⟩
end Go.Proofs.YtnnbnecpcppkdaaDoor
