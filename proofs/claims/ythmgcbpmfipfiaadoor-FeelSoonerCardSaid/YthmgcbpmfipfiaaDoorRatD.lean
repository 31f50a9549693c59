/- rat.Div. Conditions: those typed. -/
import Derived.Test.YthmgcbpmfipfiaaDoorRatB
import Derived.Deep.RegionHeld3
namespace Go.Proofs.YthmgcbpmfipfiaaDoor
open Go.RowKit Go.Gy
set_option linter.unusedVariables false
theorem results_cell_two {P : Program} {fn : Func} {p q : Tmp} {ty : TypeId} (h : fn.results = #[.cell p ty, .tmp q]) (tmps : Array Value) (w : World) (g : Nat) (t : TypeId) (cs : Array Value) (fr : Nat × Nat) (d : TypeDesc) (u : Value)
    (hp : tmps.getD p undef = .pointer (some ⟨g, 0, none⟩)) (hq : tmps.getD q undef = u) (hg : w.heap[g]? = some (.cells cs t fr))
    (hu : P.underlying ty = some d) (hd : (match d with | .struct _ | .array _ _ => true | _ => false) = true) (hi : (P.info? ty).map (·.size) = some cs.size) :
    (results fn tmps).run P w = .ok (.tuple #[.agg cs, u]) w := by
  have hp' : tmps[p]?.getD undef = .pointer (some ⟨g, 0, none⟩) := by simpa using hp
  have hq' : tmps[q]?.getD undef = u := by simpa using hq
  simp [results, h, hp', hq', asAddr, run_loadVar_row w g t ty cs fr d hg hu hd hi]
/-- the quotient's value and errno -/
def divV (a b : Rat) : Value := if b = 0 then .agg #[.bool false, .string { data := #[] }, .string { data := #[] }] else QV (a / b)
def divE (b : Rat) : Int := if b = 0 then 12 else 0
set_option maxRecDepth 100000 in
set_option maxHeartbeats 4000000 in
theorem divq_any (w : World) (n1 : Bool) (s1 t1 : ByteArray) (n2 : Bool) (s2 t2 : ByteArray) (q1 q2 : Rat) (hq1 : fitQ n1 s1 t1 = q1) (hq2 : fitQ n2 s2 t2 = q2) (hs1 : s1.size ≤ 1099511627776) (ht1 : t1.size ≤ 1099511627776) (hs2 : s2.size ≤ 1099511627776) (ht2 : t2.size ≤ 1099511627776) (hT : TabW w) :
    Calls Tryd.prog 76 #[.agg #[.bool n1, .string s1, .string t1], .agg #[.bool n2, .string s2, .string t2]] w fun e w' => e = .returned (.tuple #[divV q1 q2, .int .i64 (divE q2)]) ∧ Below w.heap.size w w' := by
  have HTW := Lib.hid (fun W hW => TabW.below (w' := W) hT hW)
  have HF1 := Lib.hid (fun W hW => fit_any W n1 s1 t1 (by omega) (by omega) (HTW.out W hW))
  have HF2 := Lib.hid (fun W hW => fit_any W n2 s2 t2 (by omega) (by omega) (HTW.out W hW))
  rw [hq1] at HF1
  rw [hq2] at HF2
  have hz1 : qz q1 ≤ 1099511627776 := by rw [← hq1]; have := qz_fit n1 s1 t1; omega
  have hz2 : qz q2 ≤ 1099511627776 := by rw [← hq2]; have := qz_fit n2 s2 t2; omega
  clear hT
  unfold QV at HF1 HF2
  obtain ⟨kp, kq, kr, hB⟩ := R3.three w n1 s1 t1 n2 s2 t2
  have hp : w.heap.size ≤ w.heap.size := Nat.le_refl _
  have hq : w.heap.size ≤ w.heap.size + 1 := by omega
  have hpq : w.heap.size ≠ w.heap.size + 1 := by omega
  have hqp : w.heap.size + 1 ≠ w.heap.size := by omega
  have hrp : w.heap.size + 1 + 1 ≠ w.heap.size := by omega
  have hrq : w.heap.size + 1 + 1 ≠ w.heap.size + 1 := by omega
  go_enter Tryd.func76, Tryd.ntmps76
  go_upto_region 1 with (fail)
  go_cut [] (fun wx => FitR w w.heap.size (w.heap.size + 1) (w.heap.size + 1 + 1) q1 q2 wx)
  case first =>
    generalize ((w.alloc _).alloc _).alloc _ = w1 at kp kq kr hB ⊢
    refine wp_region_held_drew (S := fun _ => True) (by kernel_rfl) trivial (fun hHeld => ?_)
    clear hHeld
    replace kp := kp.drew
    replace kq := kq.drew
    replace kr := kr.drew
    replace hB := hB.drew
    generalize World.drew _ = W at kp kq kr hB ⊢
    refine wpAnyH_ready (rs := [0, 2]) (by kernel_rfl) (by simp) ?_
    refine AllReadyH.cons rfl (fun K hK => ?_) (AllReadyH.cons rfl (fun K hK => ?_) AllReadyH.nil)
    · rw [if_pos (by rfl)]
      obtain ⟨a0, a1, a2, _, _, _⟩ := kp.facts
      go_simp
      refine hK.out _ _ trivial (fun hHeld => ?_)
      clear hK K hHeld
      clear a0 a1 a2
      try simp only [Act.put, List.setIfInBounds_toArray, List.set_cons_zero, List.set_cons_succ]
      refine wpAnyH_ready (rs := [1, 2]) (by kernel_rfl) (by simp) ?_
      refine AllReadyH.cons rfl (fun K hK => ?_) (AllReadyH.cons rfl (fun K hK => ?_) AllReadyH.nil)
      · rw [if_pos (by rfl)]
        go_simp
        refine (HF1.out _ hB).mono ?_
        rintro e W' ⟨rfl, hb⟩
        replace kp := kp.below hb kp.lt
        replace kq := kq.below hb kq.lt
        replace kr := kr.below hb kr.lt
        replace hB := hB.trans (hb.mono hB.size)
        clear hb
        go_simp
        refine hK.out _ _ trivial (fun hHeld => ?_)
        clear hK K hHeld
        try simp only [Act.put, List.setIfInBounds_toArray, List.set_cons_zero, List.set_cons_succ]
        refine wpAnyH_ready (rs := [2]) (by kernel_rfl) (by simp) ?_
        refine AllReadyH.cons rfl (fun K hK => ?_) AllReadyH.nil
        · rw [if_pos (by rfl)]
          obtain ⟨a0, a1, a2, _, _, _⟩ := kq.facts
          go_simp
          refine hK.out _ _ trivial (fun hHeld => ?_)
          clear hK K hHeld
          clear a0 a1 a2
          try simp only [Act.put, List.setIfInBounds_toArray, List.set_cons_zero, List.set_cons_succ]
          refine wpAnyH_ready (rs := [3]) (by kernel_rfl) (by simp) ?_
          refine AllReadyH.cons rfl (fun K hK => ?_) AllReadyH.nil
          · rw [if_pos (by rfl)]
            go_simp
            refine (HF2.out _ hB).mono ?_
            rintro e W' ⟨rfl, hb⟩
            replace kp := kp.below hb kp.lt
            replace kq := kq.below hb kq.lt
            replace kr := kr.below hb kr.lt
            replace hB := hB.trans (hb.mono hB.size)
            clear hb
            go_simp
            refine hK.out _ _ trivial (fun hHeld => ?_)
            clear hK K hHeld
            try simp only [Act.put, List.setIfInBounds_toArray, List.set_cons_zero, List.set_cons_succ]
            refine wpAnyH_ready (rs := [4]) (by kernel_rfl) (by simp) ?_
            refine AllReadyH.cons rfl (fun K hK => ?_) AllReadyH.nil
            · rw [if_pos (by rfl)]
              obtain ⟨_, _, _, f0, f1, f2⟩ := kp.facts
              go_simp
              refine hK.out _ _ trivial (fun hHeld => ?_)
              clear hK K hHeld
              clear f0 f1 f2
              replace kq := kq.far3 hqp (.bool (qn q1)) (.string (qs q1)) (.string (qt q1))
              replace kr := kr.far3 hrp (.bool (qn q1)) (.string (qs q1)) (.string (qt q1))
              replace kp := kp.put (qn q1) (qs q1) (qt q1)
              replace hB := ((hB.setCell (p := ⟨w.heap.size, 0, none⟩) hp (.bool (qn q1))).setCell (p := ⟨w.heap.size, 1, none⟩) hp (.string (qs q1))).setCell (p := ⟨w.heap.size, 2, none⟩) hp (.string (qt q1))
              generalize ((World.setCell _ _ _).setCell _ _).setCell _ _ = W' at kp kq kr hB ⊢
              try simp only [Act.put, List.setIfInBounds_toArray, List.set_cons_zero, List.set_cons_succ]
              refine wpAnyH_ready (rs := [5]) (by kernel_rfl) (by simp) ?_
              refine AllReadyH.cons rfl (fun K hK => ?_) AllReadyH.nil
              · rw [if_pos (by rfl)]
                obtain ⟨_, _, _, f0, f1, f2⟩ := kq.facts
                go_simp
                refine hK.out _ _ trivial (fun hHeld => ?_)
                clear hK K hHeld
                clear f0 f1 f2
                replace kp := kp.far3 hpq (.bool (qn q2)) (.string (qs q2)) (.string (qt q2))
                replace kr := kr.far3 hrq (.bool (qn q2)) (.string (qs q2)) (.string (qt q2))
                replace kq := kq.put (qn q2) (qs q2) (qt q2)
                replace hB := ((hB.setCell (p := ⟨w.heap.size + 1, 0, none⟩) hq (.bool (qn q2))).setCell (p := ⟨w.heap.size + 1, 1, none⟩) hq (.string (qs q2))).setCell (p := ⟨w.heap.size + 1, 2, none⟩) hq (.string (qt q2))
                generalize ((World.setCell _ _ _).setCell _ _).setCell _ _ = W' at kp kq kr hB ⊢
                try simp only [Act.put, List.setIfInBounds_toArray, List.set_cons_zero, List.set_cons_succ]
                refine wpAnyH_done (by kernel_rfl) ?_ _
                go_wp2_with fail
                go_meet
                exact ⟨kp, kq, kr, hB⟩
      · rw [if_pos (by rfl)]
        obtain ⟨a0, a1, a2, _, _, _⟩ := kq.facts
        go_simp
        refine hK.out _ _ trivial (fun hHeld => ?_)
        clear hK K hHeld
        clear a0 a1 a2
        try simp only [Act.put, List.setIfInBounds_toArray, List.set_cons_zero, List.set_cons_succ]
        refine wpAnyH_ready (rs := [1]) (by kernel_rfl) (by simp) ?_
        refine AllReadyH.cons rfl (fun K hK => ?_) AllReadyH.nil
        · rw [if_pos (by rfl)]
          go_simp
          refine (HF1.out _ hB).mono ?_
          rintro e W' ⟨rfl, hb⟩
          replace kp := kp.below hb kp.lt
          replace kq := kq.below hb kq.lt
          replace kr := kr.below hb kr.lt
          replace hB := hB.trans (hb.mono hB.size)
          clear hb
          go_simp
          refine hK.out _ _ trivial (fun hHeld => ?_)
          clear hK K hHeld
          try simp only [Act.put, List.setIfInBounds_toArray, List.set_cons_zero, List.set_cons_succ]
          refine wpAnyH_ready (rs := [3]) (by kernel_rfl) (by simp) ?_
          refine AllReadyH.cons rfl (fun K hK => ?_) AllReadyH.nil
          · rw [if_pos (by rfl)]
            go_simp
            refine (HF2.out _ hB).mono ?_
            rintro e W' ⟨rfl, hb⟩
            replace kp := kp.below hb kp.lt
            replace kq := kq.below hb kq.lt
            replace kr := kr.below hb kr.lt
            replace hB := hB.trans (hb.mono hB.size)
            clear hb
            go_simp
            refine hK.out _ _ trivial (fun hHeld => ?_)
            clear hK K hHeld
            try simp only [Act.put, List.setIfInBounds_toArray, List.set_cons_zero, List.set_cons_succ]
            refine wpAnyH_ready (rs := [4]) (by kernel_rfl) (by simp) ?_
            refine AllReadyH.cons rfl (fun K hK => ?_) AllReadyH.nil
            · rw [if_pos (by rfl)]
              obtain ⟨_, _, _, f0, f1, f2⟩ := kp.facts
              go_simp
              refine hK.out _ _ trivial (fun hHeld => ?_)
              clear hK K hHeld
              clear f0 f1 f2
              replace kq := kq.far3 hqp (.bool (qn q1)) (.string (qs q1)) (.string (qt q1))
              replace kr := kr.far3 hrp (.bool (qn q1)) (.string (qs q1)) (.string (qt q1))
              replace kp := kp.put (qn q1) (qs q1) (qt q1)
              replace hB := ((hB.setCell (p := ⟨w.heap.size, 0, none⟩) hp (.bool (qn q1))).setCell (p := ⟨w.heap.size, 1, none⟩) hp (.string (qs q1))).setCell (p := ⟨w.heap.size, 2, none⟩) hp (.string (qt q1))
              generalize ((World.setCell _ _ _).setCell _ _).setCell _ _ = W' at kp kq kr hB ⊢
              try simp only [Act.put, List.setIfInBounds_toArray, List.set_cons_zero, List.set_cons_succ]
              refine wpAnyH_ready (rs := [5]) (by kernel_rfl) (by simp) ?_
              refine AllReadyH.cons rfl (fun K hK => ?_) AllReadyH.nil
              · rw [if_pos (by rfl)]
                obtain ⟨_, _, _, f0, f1, f2⟩ := kq.facts
                go_simp
                refine hK.out _ _ trivial (fun hHeld => ?_)
                clear hK K hHeld
                clear f0 f1 f2
                replace kp := kp.far3 hpq (.bool (qn q2)) (.string (qs q2)) (.string (qt q2))
                replace kr := kr.far3 hrq (.bool (qn q2)) (.string (qs q2)) (.string (qt q2))
                replace kq := kq.put (qn q2) (qs q2) (qt q2)
                replace hB := ((hB.setCell (p := ⟨w.heap.size + 1, 0, none⟩) hq (.bool (qn q2))).setCell (p := ⟨w.heap.size + 1, 1, none⟩) hq (.string (qs q2))).setCell (p := ⟨w.heap.size + 1, 2, none⟩) hq (.string (qt q2))
                generalize ((World.setCell _ _ _).setCell _ _).setCell _ _ = W' at kp kq kr hB ⊢
                try simp only [Act.put, List.setIfInBounds_toArray, List.set_cons_zero, List.set_cons_succ]
                refine wpAnyH_done (by kernel_rfl) ?_ _
                go_wp2_with fail
                go_meet
                exact ⟨kp, kq, kr, hB⟩
    · rw [if_pos (by rfl)]
      obtain ⟨a0, a1, a2, _, _, _⟩ := kq.facts
      go_simp
      refine hK.out _ _ trivial (fun hHeld => ?_)
      clear hK K hHeld
      clear a0 a1 a2
      try simp only [Act.put, List.setIfInBounds_toArray, List.set_cons_zero, List.set_cons_succ]
      refine wpAnyH_ready (rs := [0]) (by kernel_rfl) (by simp) ?_
      refine AllReadyH.cons rfl (fun K hK => ?_) AllReadyH.nil
      · rw [if_pos (by rfl)]
        obtain ⟨a0, a1, a2, _, _, _⟩ := kp.facts
        go_simp
        refine hK.out _ _ trivial (fun hHeld => ?_)
        clear hK K hHeld
        clear a0 a1 a2
        try simp only [Act.put, List.setIfInBounds_toArray, List.set_cons_zero, List.set_cons_succ]
        refine wpAnyH_ready (rs := [1]) (by kernel_rfl) (by simp) ?_
        refine AllReadyH.cons rfl (fun K hK => ?_) AllReadyH.nil
        · rw [if_pos (by rfl)]
          go_simp
          refine (HF1.out _ hB).mono ?_
          rintro e W' ⟨rfl, hb⟩
          replace kp := kp.below hb kp.lt
          replace kq := kq.below hb kq.lt
          replace kr := kr.below hb kr.lt
          replace hB := hB.trans (hb.mono hB.size)
          clear hb
          go_simp
          refine hK.out _ _ trivial (fun hHeld => ?_)
          clear hK K hHeld
          try simp only [Act.put, List.setIfInBounds_toArray, List.set_cons_zero, List.set_cons_succ]
          refine wpAnyH_ready (rs := [3]) (by kernel_rfl) (by simp) ?_
          refine AllReadyH.cons rfl (fun K hK => ?_) AllReadyH.nil
          · rw [if_pos (by rfl)]
            go_simp
            refine (HF2.out _ hB).mono ?_
            rintro e W' ⟨rfl, hb⟩
            replace kp := kp.below hb kp.lt
            replace kq := kq.below hb kq.lt
            replace kr := kr.below hb kr.lt
            replace hB := hB.trans (hb.mono hB.size)
            clear hb
            go_simp
            refine hK.out _ _ trivial (fun hHeld => ?_)
            clear hK K hHeld
            try simp only [Act.put, List.setIfInBounds_toArray, List.set_cons_zero, List.set_cons_succ]
            refine wpAnyH_ready (rs := [4]) (by kernel_rfl) (by simp) ?_
            refine AllReadyH.cons rfl (fun K hK => ?_) AllReadyH.nil
            · rw [if_pos (by rfl)]
              obtain ⟨_, _, _, f0, f1, f2⟩ := kp.facts
              go_simp
              refine hK.out _ _ trivial (fun hHeld => ?_)
              clear hK K hHeld
              clear f0 f1 f2
              replace kq := kq.far3 hqp (.bool (qn q1)) (.string (qs q1)) (.string (qt q1))
              replace kr := kr.far3 hrp (.bool (qn q1)) (.string (qs q1)) (.string (qt q1))
              replace kp := kp.put (qn q1) (qs q1) (qt q1)
              replace hB := ((hB.setCell (p := ⟨w.heap.size, 0, none⟩) hp (.bool (qn q1))).setCell (p := ⟨w.heap.size, 1, none⟩) hp (.string (qs q1))).setCell (p := ⟨w.heap.size, 2, none⟩) hp (.string (qt q1))
              generalize ((World.setCell _ _ _).setCell _ _).setCell _ _ = W' at kp kq kr hB ⊢
              try simp only [Act.put, List.setIfInBounds_toArray, List.set_cons_zero, List.set_cons_succ]
              refine wpAnyH_ready (rs := [5]) (by kernel_rfl) (by simp) ?_
              refine AllReadyH.cons rfl (fun K hK => ?_) AllReadyH.nil
              · rw [if_pos (by rfl)]
                obtain ⟨_, _, _, f0, f1, f2⟩ := kq.facts
                go_simp
                refine hK.out _ _ trivial (fun hHeld => ?_)
                clear hK K hHeld
                clear f0 f1 f2
                replace kp := kp.far3 hpq (.bool (qn q2)) (.string (qs q2)) (.string (qt q2))
                replace kr := kr.far3 hrq (.bool (qn q2)) (.string (qs q2)) (.string (qt q2))
                replace kq := kq.put (qn q2) (qs q2) (qt q2)
                replace hB := ((hB.setCell (p := ⟨w.heap.size + 1, 0, none⟩) hq (.bool (qn q2))).setCell (p := ⟨w.heap.size + 1, 1, none⟩) hq (.string (qs q2))).setCell (p := ⟨w.heap.size + 1, 2, none⟩) hq (.string (qt q2))
                generalize ((World.setCell _ _ _).setCell _ _).setCell _ _ = W' at kp kq kr hB ⊢
                try simp only [Act.put, List.setIfInBounds_toArray, List.set_cons_zero, List.set_cons_succ]
                refine wpAnyH_done (by kernel_rfl) ?_ _
                go_wp2_with fail
                go_meet
                exact ⟨kp, kq, kr, hB⟩
  case rest =>
    clear kp kq kr hB
    obtain ⟨kp, kq, kr, hB⟩ := hcut
    have he := natS_empty q2.num.natAbs
    rw [show natS q2.num.natAbs = qs q2 from rfl] at he
    obtain ⟨_, cq, _, _⟩ := kq.facts
    by_cases h0 : q2 = 0
    · have HN := Lib.hid (show divV q1 q2 = .agg #[.bool false, .string { data := #[] }, .string { data := #[] }] from if_pos h0)
      have HN2 := Lib.hid (show divE q2 = 12 from if_pos h0)
      rw [decide_eq_true (by rw [h0]; rfl)] at he
      obtain ⟨a2, ha2⟩ : ∃ x, x = qs q2 := ⟨_, rfl⟩
      rw [← ha2] at he cq
      obtain ⟨_, _, _, f0, f1, f2⟩ := kr.facts
      have HZ := Lib.hid (kr.put false { data := #[] } { data := #[] })
      clear kp kq kr HF1 HF2 ha2 h0
      go_wp2
      refine bodyPost_ret (results_cell_two Tryd.results76 _ _ (w.heap.size + 1 + 1) 27 #[.bool false, .string { data := #[] }, .string { data := #[] }] (0, 0) _ (.int .i64 12) rfl rfl HZ.out Tryd.underlying27 rfl (by kernel_rfl)) rfl ?_
      exact ⟨by rw [HN.out, HN2.out], ((hB.setCell (by simp; omega) _).setCell (by simp; omega) _).setCell (by simp; omega) _⟩
    have hnz : q2.num.natAbs ≠ 0 := fun h => h0 (Rat.num_eq_zero.mp (Int.natAbs_eq_zero.mp h))
    have HN := Lib.hid (show divV q1 q2 = QV (q1 / q2) from if_neg h0)
    have HN2 := Lib.hid (show divE q2 = 0 from if_neg h0)
    rw [decide_eq_false hnz] at he
    clear h0
    have M1 := Lib.hid (fun W => mul_any W (natS q1.num.natAbs) (natS q2.den) (by have := qs_size q1; unfold qs at this; omega) (by have := qt_size q2; unfold qt at this; omega))
    simp only [sval_natS] at M1
    have hlM1 := natL_len_mul q1.num.natAbs q2.den
    rw [show natS q1.num.natAbs = qs q1 from rfl, show natS q2.den = qt q2 from rfl] at M1
    have M2 := Lib.hid (fun W => mul_any W (natS q1.den) (natS q2.num.natAbs) (by have := qt_size q1; unfold qt at this; omega) (by have := qs_size q2; unfold qs at this; omega))
    simp only [sval_natS] at M2
    have hlM2 := natL_len_mul q1.den q2.num.natAbs
    rw [show natS q1.den = qt q1 from rfl, show natS q2.num.natAbs = qs q2 from rfl] at M2
    have MD := Lib.hid (fun W hW => made_any W (qn q1 != qn q2) (q1.num.natAbs * q2.den) (q1.den * q2.num.natAbs) (Nat.mul_ne_zero q1.den_nz hnz) (by rw [natS_size]; unfold qz at hz1 hz2; omega) (by rw [natS_size]; unfold qz at hz1 hz2; omega) (HTW.out W hW))
    have HQ := Lib.hid (show mkRat (sgn (qn q1 != qn q2) (q1.num.natAbs * q2.den)) (q1.den * q2.num.natAbs) = q1 / q2 by exact (div_mk q1 q2).symm)
    rw [HQ.out] at MD
    have HS := Lib.hid (show ∀ w', Below (w.heap.size + 1 + 1) wc w' → w'.cell? ⟨w.heap.size, 0, none⟩ = some (.bool (qn q1)) ∧ w'.cell? ⟨w.heap.size, 1, none⟩ = some (.string (qs q1)) ∧ w'.cell? ⟨w.heap.size, 2, none⟩ = some (.string (qt q1)) ∧ w'.cell? ⟨w.heap.size + 1, 0, none⟩ = some (.bool (qn q2)) ∧ w'.cell? ⟨w.heap.size + 1, 1, none⟩ = some (.string (qs q2)) ∧ w'.cell? ⟨w.heap.size + 1, 2, none⟩ = some (.string (qt q2)) from fun w' hb => by
      obtain ⟨h1, h2, h3, _⟩ := (kp.below hb (by omega)).facts
      obtain ⟨h4, h5, h6, _⟩ := (kq.below hb (by omega)).facts
      exact ⟨h1, h2, h3, h4, h5, h6⟩)
    unfold QV at MD
    obtain ⟨nQ, hnQ⟩ : ∃ x, x = qn (q1 / q2) := ⟨_, rfl⟩
    obtain ⟨sQ, hsQ⟩ : ∃ x, x = qs (q1 / q2) := ⟨_, rfl⟩
    obtain ⟨tQ, htQ⟩ : ∃ x, x = qt (q1 / q2) := ⟨_, rfl⟩
    have HV := Lib.hid (show Value.agg #[.bool nQ, .string sQ, .string tQ] = QV (q1 / q2) by rw [hnQ, hsQ, htQ]; rfl)
    rw [← hnQ, ← hsQ, ← htQ] at MD
    clear hnQ hsQ htQ
    clear HQ HF1 HF2 hlM1 hlM2 hz1 hz2 hq1 hq2 hs1 hs2 ht1 ht2
    obtain ⟨b1, hb1⟩ : ∃ x, x = qn q1 := ⟨_, rfl⟩
    obtain ⟨b2, hb2⟩ : ∃ x, x = qn q2 := ⟨_, rfl⟩
    obtain ⟨a1, ha1⟩ : ∃ x, x = qs q1 := ⟨_, rfl⟩
    obtain ⟨a2, ha2⟩ : ∃ x, x = qs q2 := ⟨_, rfl⟩
    obtain ⟨d1, hd1⟩ : ∃ x, x = qt q1 := ⟨_, rfl⟩
    obtain ⟨d2, hd2⟩ : ∃ x, x = qt q2 := ⟨_, rfl⟩
    obtain ⟨a, ha⟩ : ∃ x, x = natS (q1.num.natAbs * q2.den) := ⟨_, rfl⟩
    obtain ⟨d, hd⟩ : ∃ x, x = natS (q1.den * q2.num.natAbs) := ⟨_, rfl⟩
    rw [← hb1, ← hb2, ← ha, ← hd] at MD
    rw [← ha1, ← hd2, ← ha] at M1
    rw [← hd1, ← ha2, ← hd] at M2
    rw [← hb1, ← hb2, ← ha1, ← ha2, ← hd1, ← hd2] at HS
    rw [← ha2] at he cq
    clear hb1 hb2 ha1 ha2 hd1 hd2 ha hd kp kq hnz
    have hb0 := Lib.hid (Below.refl (w.heap.size + 1 + 1) wc)
    have hsz := hB.size
    have hlt := kr.lt
    have HB := Lib.hid hB
    clear hB
    go_wp2_with fail
    go_region_held3 (fun w' => w'.cell? ⟨w.heap.size, 0, none⟩ = some (.bool b1) ∧ w'.cell? ⟨w.heap.size, 1, none⟩ = some (.string a1) ∧ w'.cell? ⟨w.heap.size, 2, none⟩ = some (.string d1) ∧ w'.cell? ⟨w.heap.size + 1, 0, none⟩ = some (.bool b2) ∧ w'.cell? ⟨w.heap.size + 1, 1, none⟩ = some (.string a2) ∧ w'.cell? ⟨w.heap.size + 1, 2, none⟩ = some (.string d2))
      (with_reducible (first
        | exact HS.out _ (((hr5.setCell (p := ⟨w.heap.size + 1 + 1, 0, none⟩) (Nat.le_refl _) (.bool nQ)).setCell (p := ⟨w.heap.size + 1 + 1, 1, none⟩) (Nat.le_refl _) (.string sQ)).setCell (p := ⟨w.heap.size + 1 + 1, 2, none⟩) (Nat.le_refl _) (.string tQ))
        | exact HS.out _ hr5
        | exact HS.out _ hr4
        | exact HS.out _ hr3
        | exact HS.out _ hb0.out.drew))
      (first
        | (go_at_call_of 71 (Value.string a1); refine (M1.out _).mono ?_; rintro e w3 ⟨rfl, hb3⟩; have hr3 := hb0.out.drew.trans (hb3.mono (show w.heap.size + 1 + 1 ≤ wc.heap.size by omega)); have kr3 := kr.drew.below hb3 kr.lt)
        | (go_at_call_of 71 (Value.string d1); refine (M2.out _).mono ?_; rintro e w4 ⟨rfl, hb4⟩; have hr4 := hr3.trans (hb4.mono (by have := hr3.size; omega)); have kr4 := kr3.below hb4 kr3.lt)
        | (go_at_call 70; refine (MD.out _ (HB.out.trans (hr4.mono (by omega)))).mono ?_; rintro e w5 ⟨rfl, hb5⟩; have hr5 := hr4.trans (hb5.mono (by have := hr4.size; omega)); have kr5 := kr4.below hb5 kr4.lt; obtain ⟨_, _, _, f0, f1, f2⟩ := kr5.facts))
    rename_i hHeld
    clear hHeld
    have HZ := Lib.hid (kr5.put nQ sQ tQ)
    have hfin : Below w.heap.size w w5 := HB.out.trans (hr5.mono (by omega))
    clear f0 f1 f2 kr3 kr4 kr5 hr3 hr4 hr5 hb3 hb4 hb5 M1 M2 MD HS
    go_wp2
    refine bodyPost_ret (results_cell_two Tryd.results76 _ _ (w.heap.size + 1 + 1) 27 #[.bool nQ, .string sQ, .string tQ] (0, 0) _ (.int .i64 0) rfl rfl HZ.out Tryd.underlying27 rfl (by kernel_rfl)) rfl ?_
    exact ⟨by rw [HV.out, HN.out, HN2.out], ((hfin.setCell (by simp; omega) _).setCell (by simp; omega) _).setCell (by simp; omega) _⟩
end Go.Proofs.YthmgcbpmfipfiaaDoor
