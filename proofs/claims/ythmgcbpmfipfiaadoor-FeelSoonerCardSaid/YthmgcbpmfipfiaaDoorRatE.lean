/- rat.Add. Conditions: those typed. -/
import Derived.Test.YthmgcbpmfipfiaaDoorRatB
import Derived.Deep.RegionHeld3
namespace Go.Proofs.YthmgcbpmfipfiaaDoor
open Go.RowKit Go.Gy
set_option linter.unusedVariables false
theorem mkRat_same (q1 q2 : Rat) (h : q1.den = q2.den) : mkRat (q1.num + q2.num) q1.den = q1 + q2 := by
  rw [Rat.add_def', ← h, ← Int.add_mul, Rat.mkRat_mul_right q1.den_nz]
theorem sgn_size {k : Bool} {r B : Nat} {x y : Int} (h : sgn k r = x + y) (hx : (natL x.natAbs).length ≤ B) (hy : (natL y.natAbs).length ≤ B) : (natS r).size ≤ B + 1 := by
  rw [natS_size]
  have h1 : r ≤ x.natAbs + y.natAbs := by
    have := congrArg Int.natAbs h
    rw [sgn_abs] at this
    rw [this]
    exact Int.natAbs_add_le _ _
  have h2 := natL_len_mono h1
  have h3 := natL_len_add x.natAbs y.natAbs
  omega
theorem toList_ne {a b : ByteArray} (h : a ≠ b) : ¬ a.toList = b.toList := by
  intro h1
  rw [ByteArray.toList_eq, ByteArray.toList_eq] at h1
  exact h (ByteArray.ext (Array.toList_inj.mp h1))
set_option maxRecDepth 100000 in
set_option maxHeartbeats 4000000 in
theorem addq_any (w : World) (n1 : Bool) (s1 t1 : ByteArray) (n2 : Bool) (s2 t2 : ByteArray) (q1 q2 : Rat) (hq1 : fitQ n1 s1 t1 = q1) (hq2 : fitQ n2 s2 t2 = q2) (hs1 : s1.size ≤ 1099511627776) (ht1 : t1.size ≤ 1099511627776) (hs2 : s2.size ≤ 1099511627776) (ht2 : t2.size ≤ 1099511627776) (hT : TabW w) :
    Calls Tryd.prog 17 #[.agg #[.bool n1, .string s1, .string t1], .agg #[.bool n2, .string s2, .string t2]] w fun e w' => e = .returned (QV (q1 + q2)) ∧ Below w.heap.size w w' := by
  have HTW := Lib.hid (fun W hW => TabW.below (w' := W) hT hW)
  have HF1 := Lib.hid (fun W hW => fit_any W n1 s1 t1 (by omega) (by omega) (HTW.out W hW))
  have HF2 := Lib.hid (fun W hW => fit_any W n2 s2 t2 (by omega) (by omega) (HTW.out W hW))
  rw [hq1] at HF1
  rw [hq2] at HF2
  have hz1 : qz q1 ≤ 1099511627776 := by rw [← hq1]; have := qz_fit n1 s1 t1; omega
  have hz2 : qz q2 ≤ 1099511627776 := by rw [← hq2]; have := qz_fit n2 s2 t2; omega
  clear hT
  unfold QV at HF1 HF2
  obtain ⟨kp, kq, kr, hB⟩ := R3.three w n1 s1 t1 n2 s2 t2
  have hp : w.heap.size ≤ w.heap.size := Nat.le_refl _
  have hq : w.heap.size ≤ w.heap.size + 1 := by omega
  have hpq : w.heap.size ≠ w.heap.size + 1 := by omega
  have hqp : w.heap.size + 1 ≠ w.heap.size := by omega
  have hrp : w.heap.size + 1 + 1 ≠ w.heap.size := by omega
  have hrq : w.heap.size + 1 + 1 ≠ w.heap.size + 1 := by omega
  go_enter Tryd.func17, Tryd.ntmps17
  go_upto_region 1 with (fail)
  go_cut [] (fun wx => FitR w w.heap.size (w.heap.size + 1) (w.heap.size + 1 + 1) q1 q2 wx)
  case first =>
    generalize ((w.alloc _).alloc _).alloc _ = w1 at kp kq kr hB ⊢
    refine wp_region_held_drew (S := fun _ => True) (by kernel_rfl) trivial (fun hHeld => ?_)
    clear hHeld
    replace kp := kp.drew
    replace kq := kq.drew
    replace kr := kr.drew
    replace hB := hB.drew
    generalize World.drew _ = W at kp kq kr hB ⊢
    refine wpAnyH_ready (rs := [0, 2]) (by kernel_rfl) (by simp) ?_
    refine AllReadyH.cons rfl (fun K hK => ?_) (AllReadyH.cons rfl (fun K hK => ?_) AllReadyH.nil)
    · rw [if_pos (by rfl)]
      obtain ⟨a0, a1, a2, _, _, _⟩ := kp.facts
      go_simp
      refine hK.out _ _ trivial (fun hHeld => ?_)
      clear hK K hHeld
      clear a0 a1 a2
      try simp only [Act.put, List.setIfInBounds_toArray, List.set_cons_zero, List.set_cons_succ]
      refine wpAnyH_ready (rs := [1, 2]) (by kernel_rfl) (by simp) ?_
      refine AllReadyH.cons rfl (fun K hK => ?_) (AllReadyH.cons rfl (fun K hK => ?_) AllReadyH.nil)
      · rw [if_pos (by rfl)]
        go_simp
        refine (HF1.out _ hB).mono ?_
        rintro e W' ⟨rfl, hb⟩
        replace kp := kp.below hb kp.lt
        replace kq := kq.below hb kq.lt
        replace kr := kr.below hb kr.lt
        replace hB := hB.trans (hb.mono hB.size)
        clear hb
        go_simp
        refine hK.out _ _ trivial (fun hHeld => ?_)
        clear hK K hHeld
        try simp only [Act.put, List.setIfInBounds_toArray, List.set_cons_zero, List.set_cons_succ]
        refine wpAnyH_ready (rs := [2]) (by kernel_rfl) (by simp) ?_
        refine AllReadyH.cons rfl (fun K hK => ?_) AllReadyH.nil
        · rw [if_pos (by rfl)]
          obtain ⟨a0, a1, a2, _, _, _⟩ := kq.facts
          go_simp
          refine hK.out _ _ trivial (fun hHeld => ?_)
          clear hK K hHeld
          clear a0 a1 a2
          try simp only [Act.put, List.setIfInBounds_toArray, List.set_cons_zero, List.set_cons_succ]
          refine wpAnyH_ready (rs := [3]) (by kernel_rfl) (by simp) ?_
          refine AllReadyH.cons rfl (fun K hK => ?_) AllReadyH.nil
          · rw [if_pos (by rfl)]
            go_simp
            refine (HF2.out _ hB).mono ?_
            rintro e W' ⟨rfl, hb⟩
            replace kp := kp.below hb kp.lt
            replace kq := kq.below hb kq.lt
            replace kr := kr.below hb kr.lt
            replace hB := hB.trans (hb.mono hB.size)
            clear hb
            go_simp
            refine hK.out _ _ trivial (fun hHeld => ?_)
            clear hK K hHeld
            try simp only [Act.put, List.setIfInBounds_toArray, List.set_cons_zero, List.set_cons_succ]
            refine wpAnyH_ready (rs := [4]) (by kernel_rfl) (by simp) ?_
            refine AllReadyH.cons rfl (fun K hK => ?_) AllReadyH.nil
            · rw [if_pos (by rfl)]
              obtain ⟨_, _, _, f0, f1, f2⟩ := kp.facts
              go_simp
              refine hK.out _ _ trivial (fun hHeld => ?_)
              clear hK K hHeld
              clear f0 f1 f2
              replace kq := kq.far3 hqp (.bool (qn q1)) (.string (qs q1)) (.string (qt q1))
              replace kr := kr.far3 hrp (.bool (qn q1)) (.string (qs q1)) (.string (qt q1))
              replace kp := kp.put (qn q1) (qs q1) (qt q1)
              replace hB := ((hB.setCell (p := ⟨w.heap.size, 0, none⟩) hp (.bool (qn q1))).setCell (p := ⟨w.heap.size, 1, none⟩) hp (.string (qs q1))).setCell (p := ⟨w.heap.size, 2, none⟩) hp (.string (qt q1))
              generalize ((World.setCell _ _ _).setCell _ _).setCell _ _ = W' at kp kq kr hB ⊢
              try simp only [Act.put, List.setIfInBounds_toArray, List.set_cons_zero, List.set_cons_succ]
              refine wpAnyH_ready (rs := [5]) (by kernel_rfl) (by simp) ?_
              refine AllReadyH.cons rfl (fun K hK => ?_) AllReadyH.nil
              · rw [if_pos (by rfl)]
                obtain ⟨_, _, _, f0, f1, f2⟩ := kq.facts
                go_simp
                refine hK.out _ _ trivial (fun hHeld => ?_)
                clear hK K hHeld
                clear f0 f1 f2
                replace kp := kp.far3 hpq (.bool (qn q2)) (.string (qs q2)) (.string (qt q2))
                replace kr := kr.far3 hrq (.bool (qn q2)) (.string (qs q2)) (.string (qt q2))
                replace kq := kq.put (qn q2) (qs q2) (qt q2)
                replace hB := ((hB.setCell (p := ⟨w.heap.size + 1, 0, none⟩) hq (.bool (qn q2))).setCell (p := ⟨w.heap.size + 1, 1, none⟩) hq (.string (qs q2))).setCell (p := ⟨w.heap.size + 1, 2, none⟩) hq (.string (qt q2))
                generalize ((World.setCell _ _ _).setCell _ _).setCell _ _ = W' at kp kq kr hB ⊢
                try simp only [Act.put, List.setIfInBounds_toArray, List.set_cons_zero, List.set_cons_succ]
                refine wpAnyH_done (by kernel_rfl) ?_ _
                go_wp2_with fail
                go_meet
                exact ⟨kp, kq, kr, hB⟩
      · rw [if_pos (by rfl)]
        obtain ⟨a0, a1, a2, _, _, _⟩ := kq.facts
        go_simp
        refine hK.out _ _ trivial (fun hHeld => ?_)
        clear hK K hHeld
        clear a0 a1 a2
        try simp only [Act.put, List.setIfInBounds_toArray, List.set_cons_zero, List.set_cons_succ]
        refine wpAnyH_ready (rs := [1]) (by kernel_rfl) (by simp) ?_
        refine AllReadyH.cons rfl (fun K hK => ?_) AllReadyH.nil
        · rw [if_pos (by rfl)]
          go_simp
          refine (HF1.out _ hB).mono ?_
          rintro e W' ⟨rfl, hb⟩
          replace kp := kp.below hb kp.lt
          replace kq := kq.below hb kq.lt
          replace kr := kr.below hb kr.lt
          replace hB := hB.trans (hb.mono hB.size)
          clear hb
          go_simp
          refine hK.out _ _ trivial (fun hHeld => ?_)
          clear hK K hHeld
          try simp only [Act.put, List.setIfInBounds_toArray, List.set_cons_zero, List.set_cons_succ]
          refine wpAnyH_ready (rs := [3]) (by kernel_rfl) (by simp) ?_
          refine AllReadyH.cons rfl (fun K hK => ?_) AllReadyH.nil
          · rw [if_pos (by rfl)]
            go_simp
            refine (HF2.out _ hB).mono ?_
            rintro e W' ⟨rfl, hb⟩
            replace kp := kp.below hb kp.lt
            replace kq := kq.below hb kq.lt
            replace kr := kr.below hb kr.lt
            replace hB := hB.trans (hb.mono hB.size)
            clear hb
            go_simp
            refine hK.out _ _ trivial (fun hHeld => ?_)
            clear hK K hHeld
            try simp only [Act.put, List.setIfInBounds_toArray, List.set_cons_zero, List.set_cons_succ]
            refine wpAnyH_ready (rs := [4]) (by kernel_rfl) (by simp) ?_
            refine AllReadyH.cons rfl (fun K hK => ?_) AllReadyH.nil
            · rw [if_pos (by rfl)]
              obtain ⟨_, _, _, f0, f1, f2⟩ := kp.facts
              go_simp
              refine hK.out _ _ trivial (fun hHeld => ?_)
              clear hK K hHeld
              clear f0 f1 f2
              replace kq := kq.far3 hqp (.bool (qn q1)) (.string (qs q1)) (.string (qt q1))
              replace kr := kr.far3 hrp (.bool (qn q1)) (.string (qs q1)) (.string (qt q1))
              replace kp := kp.put (qn q1) (qs q1) (qt q1)
              replace hB := ((hB.setCell (p := ⟨w.heap.size, 0, none⟩) hp (.bool (qn q1))).setCell (p := ⟨w.heap.size, 1, none⟩) hp (.string (qs q1))).setCell (p := ⟨w.heap.size, 2, none⟩) hp (.string (qt q1))
              generalize ((World.setCell _ _ _).setCell _ _).setCell _ _ = W' at kp kq kr hB ⊢
              try simp only [Act.put, List.setIfInBounds_toArray, List.set_cons_zero, List.set_cons_succ]
              refine wpAnyH_ready (rs := [5]) (by kernel_rfl) (by simp) ?_
              refine AllReadyH.cons rfl (fun K hK => ?_) AllReadyH.nil
              · rw [if_pos (by rfl)]
                obtain ⟨_, _, _, f0, f1, f2⟩ := kq.facts
                go_simp
                refine hK.out _ _ trivial (fun hHeld => ?_)
                clear hK K hHeld
                clear f0 f1 f2
                replace kp := kp.far3 hpq (.bool (qn q2)) (.string (qs q2)) (.string (qt q2))
                replace kr := kr.far3 hrq (.bool (qn q2)) (.string (qs q2)) (.string (qt q2))
                replace kq := kq.put (qn q2) (qs q2) (qt q2)
                replace hB := ((hB.setCell (p := ⟨w.heap.size + 1, 0, none⟩) hq (.bool (qn q2))).setCell (p := ⟨w.heap.size + 1, 1, none⟩) hq (.string (qs q2))).setCell (p := ⟨w.heap.size + 1, 2, none⟩) hq (.string (qt q2))
                generalize ((World.setCell _ _ _).setCell _ _).setCell _ _ = W' at kp kq kr hB ⊢
                try simp only [Act.put, List.setIfInBounds_toArray, List.set_cons_zero, List.set_cons_succ]
                refine wpAnyH_done (by kernel_rfl) ?_ _
                go_wp2_with fail
                go_meet
                exact ⟨kp, kq, kr, hB⟩
    · rw [if_pos (by rfl)]
      obtain ⟨a0, a1, a2, _, _, _⟩ := kq.facts
      go_simp
      refine hK.out _ _ trivial (fun hHeld => ?_)
      clear hK K hHeld
      clear a0 a1 a2
      try simp only [Act.put, List.setIfInBounds_toArray, List.set_cons_zero, List.set_cons_succ]
      refine wpAnyH_ready (rs := [0]) (by kernel_rfl) (by simp) ?_
      refine AllReadyH.cons rfl (fun K hK => ?_) AllReadyH.nil
      · rw [if_pos (by rfl)]
        obtain ⟨a0, a1, a2, _, _, _⟩ := kp.facts
        go_simp
        refine hK.out _ _ trivial (fun hHeld => ?_)
        clear hK K hHeld
        clear a0 a1 a2
        try simp only [Act.put, List.setIfInBounds_toArray, List.set_cons_zero, List.set_cons_succ]
        refine wpAnyH_ready (rs := [1]) (by kernel_rfl) (by simp) ?_
        refine AllReadyH.cons rfl (fun K hK => ?_) AllReadyH.nil
        · rw [if_pos (by rfl)]
          go_simp
          refine (HF1.out _ hB).mono ?_
          rintro e W' ⟨rfl, hb⟩
          replace kp := kp.below hb kp.lt
          replace kq := kq.below hb kq.lt
          replace kr := kr.below hb kr.lt
          replace hB := hB.trans (hb.mono hB.size)
          clear hb
          go_simp
          refine hK.out _ _ trivial (fun hHeld => ?_)
          clear hK K hHeld
          try simp only [Act.put, List.setIfInBounds_toArray, List.set_cons_zero, List.set_cons_succ]
          refine wpAnyH_ready (rs := [3]) (by kernel_rfl) (by simp) ?_
          refine AllReadyH.cons rfl (fun K hK => ?_) AllReadyH.nil
          · rw [if_pos (by rfl)]
            go_simp
            refine (HF2.out _ hB).mono ?_
            rintro e W' ⟨rfl, hb⟩
            replace kp := kp.below hb kp.lt
            replace kq := kq.below hb kq.lt
            replace kr := kr.below hb kr.lt
            replace hB := hB.trans (hb.mono hB.size)
            clear hb
            go_simp
            refine hK.out _ _ trivial (fun hHeld => ?_)
            clear hK K hHeld
            try simp only [Act.put, List.setIfInBounds_toArray, List.set_cons_zero, List.set_cons_succ]
            refine wpAnyH_ready (rs := [4]) (by kernel_rfl) (by simp) ?_
            refine AllReadyH.cons rfl (fun K hK => ?_) AllReadyH.nil
            · rw [if_pos (by rfl)]
              obtain ⟨_, _, _, f0, f1, f2⟩ := kp.facts
              go_simp
              refine hK.out _ _ trivial (fun hHeld => ?_)
              clear hK K hHeld
              clear f0 f1 f2
              replace kq := kq.far3 hqp (.bool (qn q1)) (.string (qs q1)) (.string (qt q1))
              replace kr := kr.far3 hrp (.bool (qn q1)) (.string (qs q1)) (.string (qt q1))
              replace kp := kp.put (qn q1) (qs q1) (qt q1)
              replace hB := ((hB.setCell (p := ⟨w.heap.size, 0, none⟩) hp (.bool (qn q1))).setCell (p := ⟨w.heap.size, 1, none⟩) hp (.string (qs q1))).setCell (p := ⟨w.heap.size, 2, none⟩) hp (.string (qt q1))
              generalize ((World.setCell _ _ _).setCell _ _).setCell _ _ = W' at kp kq kr hB ⊢
              try simp only [Act.put, List.setIfInBounds_toArray, List.set_cons_zero, List.set_cons_succ]
              refine wpAnyH_ready (rs := [5]) (by kernel_rfl) (by simp) ?_
              refine AllReadyH.cons rfl (fun K hK => ?_) AllReadyH.nil
              · rw [if_pos (by rfl)]
                obtain ⟨_, _, _, f0, f1, f2⟩ := kq.facts
                go_simp
                refine hK.out _ _ trivial (fun hHeld => ?_)
                clear hK K hHeld
                clear f0 f1 f2
                replace kp := kp.far3 hpq (.bool (qn q2)) (.string (qs q2)) (.string (qt q2))
                replace kr := kr.far3 hrq (.bool (qn q2)) (.string (qs q2)) (.string (qt q2))
                replace kq := kq.put (qn q2) (qs q2) (qt q2)
                replace hB := ((hB.setCell (p := ⟨w.heap.size + 1, 0, none⟩) hq (.bool (qn q2))).setCell (p := ⟨w.heap.size + 1, 1, none⟩) hq (.string (qs q2))).setCell (p := ⟨w.heap.size + 1, 2, none⟩) hq (.string (qt q2))
                generalize ((World.setCell _ _ _).setCell _ _).setCell _ _ = W' at kp kq kr hB ⊢
                try simp only [Act.put, List.setIfInBounds_toArray, List.set_cons_zero, List.set_cons_succ]
                refine wpAnyH_done (by kernel_rfl) ?_ _
                go_wp2_with fail
                go_meet
                exact ⟨kp, kq, kr, hB⟩
  case rest =>
    clear kp kq kr hB
    obtain ⟨kp, kq, kr, hB⟩ := hcut
    have hb0 := Lib.hid (Below.refl (w.heap.size + 1 + 1) wc)
    have hsz := hB.size
    have hlt := kr.lt
    by_cases hden : q1.den = q2.den
    · have SG := Lib.hid (fun W => signed_any W (qn q1) (qn q2) q1.num.natAbs q2.num.natAbs (by have := qs_size q1; unfold qs at this; omega) (by have := qs_size q2; unfold qs at this; omega))
      rw [qn_sgn, qn_sgn] at SG
      have MD := Lib.hid (show ∀ k sr, (∃ r, sr = natS r ∧ sgn k r = q1.num + q2.num) → ∀ W, Below w.heap.size w W → Calls Tryd.prog 70 #[.bool k, .string sr, .string (qt q1)] W fun e w' => e = .returned (QV (q1 + q2)) ∧ Below W.heap.size W w' from fun k sr hr W hW => by
        obtain ⟨r, rfl, hr⟩ := hr
        have hsz := sgn_size (B := 1099511627776) hr (by unfold qz at hz1; omega) (by unfold qz at hz2; omega)
        have := made_any W k r q1.den q1.den_nz (by omega) (by have := qt_size q1; unfold qt at this; omega) (HTW.out W hW)
        rw [hr, mkRat_same q1 q2 hden] at this
        exact this)
      have hdd : qt q2 = qt q1 := by unfold qt; rw [hden]
      rw [show natS q1.num.natAbs = qs q1 from rfl, show natS q2.num.natAbs = qs q2 from rfl] at SG
      obtain ⟨c0, c1, c2, _, _, _⟩ := kp.facts
      obtain ⟨e0, e1, e2, _, _, _⟩ := kq.facts
      rw [hdd] at e2
      unfold QV at MD
      obtain ⟨nQ, hnQ⟩ : ∃ x, x = qn (q1 + q2) := ⟨_, rfl⟩
      obtain ⟨sQ, hsQ⟩ : ∃ x, x = qs (q1 + q2) := ⟨_, rfl⟩
      obtain ⟨tQ, htQ⟩ : ∃ x, x = qt (q1 + q2) := ⟨_, rfl⟩
      have HV := Lib.hid (show Value.agg #[.bool nQ, .string sQ, .string tQ] = QV (q1 + q2) by rw [hnQ, hsQ, htQ]; rfl)
      rw [← hnQ, ← hsQ, ← htQ] at MD
      clear hnQ hsQ htQ
      obtain ⟨b1, hb1⟩ : ∃ x, x = qn q1 := ⟨_, rfl⟩
      obtain ⟨b2, hb2⟩ : ∃ x, x = qn q2 := ⟨_, rfl⟩
      obtain ⟨a1, ha1⟩ : ∃ x, x = qs q1 := ⟨_, rfl⟩
      obtain ⟨a2, ha2⟩ : ∃ x, x = qs q2 := ⟨_, rfl⟩
      obtain ⟨d1, hd1⟩ : ∃ x, x = qt q1 := ⟨_, rfl⟩
      obtain ⟨d2, hd2⟩ : ∃ x, x = qt q2 := ⟨_, rfl⟩
      rw [← hd1] at MD
      rw [← hb1, ← hb2, ← ha1, ← ha2] at SG
      rw [← hb1] at c0
      rw [← ha1] at c1
      rw [← hd1] at c2 e2
      rw [← hb2] at e0
      rw [← ha2] at e1
      have HC := Lib.hid (show ∀ w', Below wc.heap.size wc w' → w'.cell? ⟨w.heap.size, 2, none⟩ = some (.string d1) from fun w' hb => by rw [hb.cell (show w.heap.size < wc.heap.size from kp.lt)]; exact c2)
      have HB := Lib.hid hB
      clear hb1 hb2 ha1 ha2 hd1 hd2 hdd HF1 HF2 hz1 hz2 hq1 hq2 hs1 hs2 ht1 ht2 hden kp kq hB
      go_wp2_with fail
      refine (SG.out _).mono ?_
      rintro e w2 ⟨k, r, rfl, hr, hb2⟩
      replace kr := kr.below hb2 kr.lt
      have c2 := HC.out _ hb2
      have HM := Lib.hid (MD.out k (natS r) ⟨r, rfl, hr⟩)
      have hB2 := HB.out.trans (hb2.mono HB.out.size)
      have HB2 := Lib.hid hB2
      obtain ⟨sr, hsr⟩ : ∃ x, x = natS r := ⟨_, rfl⟩
      rw [← hsr] at HM ⊢
      clear c0 c1 e0 e1 e2 hr MD SG HC hsr hb2 hB2 hsz
      go_wp2_with fail
      refine (HM.out _ HB2.out).mono ?_
      rintro e w3 ⟨rfl, hb3⟩
      replace kr := kr.below hb3 kr.lt
      have hfin := HB2.out.trans (hb3.mono HB2.out.size)
      obtain ⟨_, _, _, f0, f1, f2⟩ := kr.facts
      have HZ := Lib.hid (kr.put nQ sQ tQ)
      clear hb3 kr HM c2
      go_wp2
      refine bodyPost_ret (results_cell_row Tryd.results17 _ _ (w.heap.size + 1 + 1) 27 _ (0, 0) _ rfl HZ.out Tryd.underlying27 rfl (by kernel_rfl)) rfl ?_
      exact ⟨congrArg Ending.returned HV.out, ((hfin.setCell (by simp; omega) _).setCell (by simp; omega) _).setCell (by simp; omega) _⟩
    have hdne : ¬ (qt q1).toList = (qt q2).toList := toList_ne (fun h => hden (natS_inj h))
    have hdnb : ((qt q1).toList == (qt q2).toList) = false := by rw [beq_eq_false_iff_ne]; exact hdne
    have hdnc : (qt q1 == qt q2) = false := by rw [Bool.eq_false_iff, ne_eq, str_beq]; exact fun h => hden (natS_inj h)
    have M1 := Lib.hid (fun W => mul_any W (natS q1.num.natAbs) (natS q2.den) (by have := qs_size q1; unfold qs at this; omega) (by have := qt_size q2; unfold qt at this; omega))
    simp only [sval_natS] at M1
    have hlM1 := natL_len_mul q1.num.natAbs q2.den
    rw [show natS q1.num.natAbs = qs q1 from rfl, show natS q2.den = qt q2 from rfl] at M1
    have M2 := Lib.hid (fun W => mul_any W (natS q2.num.natAbs) (natS q1.den) (by have := qs_size q2; unfold qs at this; omega) (by have := qt_size q1; unfold qt at this; omega))
    simp only [sval_natS] at M2
    have hlM2 := natL_len_mul q2.num.natAbs q1.den
    rw [show natS q2.num.natAbs = qs q2 from rfl, show natS q1.den = qt q1 from rfl] at M2
    have M3 := Lib.hid (fun W => mul_any W (natS q1.den) (natS q2.den) (by have := qt_size q1; unfold qt at this; omega) (by have := qt_size q2; unfold qt at this; omega))
    simp only [sval_natS] at M3
    have hlM3 := natL_len_mul q1.den q2.den
    rw [show natS q1.den = qt q1 from rfl, show natS q2.den = qt q2 from rfl] at M3
    have SG := Lib.hid (show ∀ W, Calls Tryd.prog 69 #[.bool (qn q1), .string (natS (q1.num.natAbs * q2.den)), .bool (qn q2), .string (natS (q2.num.natAbs * q1.den))] W fun e w' => ∃ k sr, e = .returned (.tuple #[.bool k, .string sr]) ∧ Hid (∃ r, sr = natS r ∧ sgn k r = q1.num * (q2.den : Int) + q2.num * (q1.den : Int)) ∧ Below W.heap.size W w' from fun W => by
      have := signed_any W (qn q1) (qn q2) (q1.num.natAbs * q2.den) (q2.num.natAbs * q1.den) (by rw [natS_size]; unfold qz at hz1 hz2; omega) (by rw [natS_size]; unfold qz at hz1 hz2; omega)
      rw [← sgn_mul_nat, ← sgn_mul_nat, qn_sgn, qn_sgn] at this
      refine this.mono ?_
      rintro e w' ⟨k, r, h1, h2, h3⟩
      exact ⟨k, _, h1, Lib.hid ⟨r, rfl, h2⟩, h3⟩)
    have MD := Lib.hid (show ∀ k sr, (∃ r, sr = natS r ∧ sgn k r = q1.num * (q2.den : Int) + q2.num * (q1.den : Int)) → ∀ W, Below w.heap.size w W → Calls Tryd.prog 70 #[.bool k, .string sr, .string (natS (q1.den * q2.den))] W fun e w' => e = .returned (QV (q1 + q2)) ∧ Below W.heap.size W w' from fun k sr hr W hW => by
      obtain ⟨r, rfl, hr⟩ := hr
      have hsz := sgn_size (B := 2199023255552) hr (by rw [Int.natAbs_mul, Int.natAbs_natCast]; unfold qz at hz1 hz2; omega) (by rw [Int.natAbs_mul, Int.natAbs_natCast]; unfold qz at hz1 hz2; omega)
      have := made_any W k r (q1.den * q2.den) (Nat.mul_ne_zero q1.den_nz q2.den_nz) (by omega) (by rw [natS_size]; unfold qz at hz1 hz2; omega) (HTW.out W hW)
      rw [hr, ← Rat.add_def'] at this
      exact this)
    have HS := Lib.hid (show ∀ w', Below (w.heap.size + 1 + 1) wc w' → w'.cell? ⟨w.heap.size, 0, none⟩ = some (.bool (qn q1)) ∧ w'.cell? ⟨w.heap.size, 1, none⟩ = some (.string (qs q1)) ∧ w'.cell? ⟨w.heap.size, 2, none⟩ = some (.string (qt q1)) ∧ w'.cell? ⟨w.heap.size + 1, 0, none⟩ = some (.bool (qn q2)) ∧ w'.cell? ⟨w.heap.size + 1, 1, none⟩ = some (.string (qs q2)) ∧ w'.cell? ⟨w.heap.size + 1, 2, none⟩ = some (.string (qt q2)) from fun w' hb => by
      obtain ⟨h1, h2, h3, _⟩ := (kp.below hb (by omega)).facts
      obtain ⟨h4, h5, h6, _⟩ := (kq.below hb (by omega)).facts
      exact ⟨h1, h2, h3, h4, h5, h6⟩)
    unfold QV at MD
    obtain ⟨nQ, hnQ⟩ : ∃ x, x = qn (q1 + q2) := ⟨_, rfl⟩
    obtain ⟨sQ, hsQ⟩ : ∃ x, x = qs (q1 + q2) := ⟨_, rfl⟩
    obtain ⟨tQ, htQ⟩ : ∃ x, x = qt (q1 + q2) := ⟨_, rfl⟩
    have HV := Lib.hid (show Value.agg #[.bool nQ, .string sQ, .string tQ] = QV (q1 + q2) by rw [hnQ, hsQ, htQ]; rfl)
    rw [← hnQ, ← hsQ, ← htQ] at MD
    clear hnQ hsQ htQ
    obtain ⟨b1, hb1⟩ : ∃ x, x = qn q1 := ⟨_, rfl⟩
    obtain ⟨b2, hb2⟩ : ∃ x, x = qn q2 := ⟨_, rfl⟩
    obtain ⟨a1, ha1⟩ : ∃ x, x = qs q1 := ⟨_, rfl⟩
    obtain ⟨a2, ha2⟩ : ∃ x, x = qs q2 := ⟨_, rfl⟩
    obtain ⟨d1, hd1⟩ : ∃ x, x = qt q1 := ⟨_, rfl⟩
    obtain ⟨d2, hd2⟩ : ∃ x, x = qt q2 := ⟨_, rfl⟩
    obtain ⟨x1, hx1⟩ : ∃ x, x = natS (q1.num.natAbs * q2.den) := ⟨_, rfl⟩
    obtain ⟨x2, hx2⟩ : ∃ x, x = natS (q2.num.natAbs * q1.den) := ⟨_, rfl⟩
    obtain ⟨d, hd⟩ : ∃ x, x = natS (q1.den * q2.den) := ⟨_, rfl⟩
    rw [← hd] at MD M3
    rw [← hx1] at M1 SG
    rw [← hx2] at M2 SG
    rw [← hb1, ← hb2] at SG
    rw [← ha1, ← hd2] at M1
    rw [← ha2, ← hd1] at M2
    rw [← hd1, ← hd2] at M3 hdne hdnb hdnc
    rw [← hb1, ← hb2, ← ha1, ← ha2, ← hd1, ← hd2] at HS
    have HB := Lib.hid hB
    clear HF1 HF2 hlM1 hlM2 hlM3 hz1 hz2 hq1 hq2 hs1 hs2 ht1 ht2 hb1 hb2 ha1 ha2 hd1 hd2 hx1 hx2 hd kp kq hB hden
    obtain ⟨_, _, cd1, _, _, cd2⟩ := HS.out _ hb0.out
    go_wp2_with fail
    clear cd1 cd2
    go_region_held3 (fun w' => w'.cell? ⟨w.heap.size, 0, none⟩ = some (.bool b1) ∧ w'.cell? ⟨w.heap.size, 1, none⟩ = some (.string a1) ∧ w'.cell? ⟨w.heap.size, 2, none⟩ = some (.string d1) ∧ w'.cell? ⟨w.heap.size + 1, 0, none⟩ = some (.bool b2) ∧ w'.cell? ⟨w.heap.size + 1, 1, none⟩ = some (.string a2) ∧ w'.cell? ⟨w.heap.size + 1, 2, none⟩ = some (.string d2))
      (with_reducible (first
        | exact HS.out _ hr5
        | exact HS.out _ hr4
        | exact HS.out _ hr3
        | exact HS.out _ hb0.out.drew))
      (first
        | (go_at_call_of 71 (Value.string a1); refine (M1.out _).mono ?_; rintro e w3 ⟨rfl, hb3⟩; have hr3 := hb0.out.drew.trans (hb3.mono (show w.heap.size + 1 + 1 ≤ wc.heap.size by omega)); have kr3 := kr.drew.below hb3 kr.lt)
        | (go_at_call_of 71 (Value.string a2); refine (M2.out _).mono ?_; rintro e w4 ⟨rfl, hb4⟩; have hr4 := hr3.trans (hb4.mono (by have := hr3.size; omega)); have kr4 := kr3.below hb4 kr3.lt)
        | (go_at_call 69; refine (SG.out _).mono ?_; rintro e w5 ⟨k, sr, rfl, hsr, hb5⟩; have hr5 := hr4.trans (hb5.mono (by have := hr4.size; omega)); have kr5 := kr4.below hb5 kr4.lt))
    rename_i hHeld
    clear hHeld
    obtain ⟨_, _, cd1, _, _, cd2⟩ := HS.out _ hr5
    have hfin : Below w.heap.size w w5 := HB.out.trans (hr5.mono (by omega))
    have HM := Lib.hid (MD.out k sr hsr.out)
    have HC := Lib.hid (fun w' h => HS.out w' (hr5.trans h))
    have hz5 := hr5.size
    clear kr kr3 kr4 hr3 hr4 hr5 hb3 hb4 hb5 M1 M2 SG MD HS hsr HB
    go_wp2_with fail
    refine (M3.out _).mono ?_
    rintro e w6 ⟨rfl, hb6⟩
    have kr6 := kr5.below hb6 kr5.lt
    replace hfin := hfin.trans (hb6.mono hfin.size)
    have Hfin := Lib.hid hfin
    clear cd1 cd2 hb6 kr5 M3 hfin
    go_wp2_with fail
    refine (HM.out _ Hfin.out).mono ?_
    rintro e w7 ⟨rfl, hb7⟩
    have kr7 := kr6.below hb7 kr6.lt
    have hfin := Hfin.out.trans (hb7.mono Hfin.out.size)
    obtain ⟨_, _, _, f0, f1, f2⟩ := kr7.facts
    have HZ := Lib.hid (kr7.put nQ sQ tQ)
    clear hb7 kr6 kr7 HM HC
    go_wp2
    refine bodyPost_ret (results_cell_row Tryd.results17 _ _ (w.heap.size + 1 + 1) 27 _ (0, 0) _ rfl HZ.out Tryd.underlying27 rfl (by kernel_rfl)) rfl ?_
    exact ⟨congrArg Ending.returned HV.out, ((hfin.setCell (by simp; omega) _).setCell (by simp; omega) _).setCell (by simp; omega) _⟩
end Go.Proofs.YthmgcbpmfipfiaaDoor
