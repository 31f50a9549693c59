/- rat.Make. Conditions: those typed. -/
import Derived.Test.YthmgcbpmfipfiaaDoorRatD
namespace Go.Proofs.YthmgcbpmfipfiaaDoor
open Go.RowKit Go.Gy
set_option linter.unusedVariables false
theorem divV_parts (a b : Rat) : ∃ n s t, divV a b = .agg #[.bool n, .string s, .string t] := by
  unfold divV
  by_cases h : b = 0
  · rw [if_pos h]; exact ⟨_, _, _, rfl⟩
  · rw [if_neg h]; exact ⟨_, _, _, rfl⟩
theorem qz_int (n : Int) (hn : -9223372036854775808 ≤ n ∧ n ≤ 9223372036854775807) : qz (n : Rat) ≤ 8 := by
  unfold qz
  show max (natL n.natAbs).length (natL 1).length ≤ 8
  rw [natL_len_one]
  have := (natL_len_le n.natAbs 8).mpr (by omega)
  omega
set_option maxRecDepth 100000 in
set_option maxHeartbeats 4000000 in
theorem makeq_any (w : World) (m n : Int) (hm : -9223372036854775808 ≤ m ∧ m ≤ 9223372036854775807) (hn : -9223372036854775808 ≤ n ∧ n ≤ 9223372036854775807) (hT : TabW w) :
    Calls Tryd.prog 44 #[.int .i64 m, .int .i64 n] w fun e w' => e = .returned (.tuple #[divV (m : Rat) (n : Rat), .int .i64 (divE (n : Rat))]) ∧ Below w.heap.size w w' := by
  have hB : Below w.heap.size w (w.alloc (.cells #[.bool false, .string { data := #[] }, .string { data := #[] }] 27)) := (Below.refl w.heap.size w).alloc (Nat.le_refl _) _
  have kr : R3 (w.alloc (.cells #[.bool false, .string { data := #[] }, .string { data := #[] }] 27)) w.heap.size false { data := #[] } { data := #[] } := R3.new w _ _ _
  have HTW := Lib.hid (fun W hW => TabW.below (w' := W) hT hW)
  have O1 := Lib.hid (fun W hW => ofint_any W m hm (HTW.out W hW))
  have O2 := Lib.hid (fun W hW => ofint_any W n hn (HTW.out W hW))
  have z1 := qz_int m hm
  have z2 := qz_int n hn
  have y1 := qs_size (m : Rat)
  have y2 := qt_size (m : Rat)
  have y3 := qs_size (n : Rat)
  have y4 := qt_size (n : Rat)
  have D := Lib.hid (fun W hW => divq_any W (qn m) (qs m) (qt m) (qn n) (qs n) (qt n) m n (fit_parts _) (fit_parts _) (by omega) (by omega) (by omega) (by omega) (HTW.out W hW))
  obtain ⟨dn, ds, dt, hd⟩ := divV_parts m n
  have HI := Lib.hid hd.symm
  rw [hd] at D
  obtain ⟨de, hde⟩ : ∃ x, x = divE (n : Rat) := ⟨_, rfl⟩
  have HE := Lib.hid hde
  rw [← hde] at D
  have hp1 : QV (m : Rat) = .agg #[.bool (qn m), .string (qs m), .string (qt m)] := rfl
  have hp2 : QV (n : Rat) = .agg #[.bool (qn n), .string (qs n), .string (qt n)] := rfl
  obtain ⟨v1, hv1⟩ : ∃ x, x = Value.agg #[.bool (qn m), .string (qs m), .string (qt m)] := ⟨_, rfl⟩
  obtain ⟨v2, hv2⟩ : ∃ x, x = Value.agg #[.bool (qn n), .string (qs n), .string (qt n)] := ⟨_, rfl⟩
  rw [hp1, ← hv1] at O1
  rw [hp2, ← hv2] at O2
  rw [← hv1, ← hv2] at D
  clear hp1 hp2 hv1 hv2 hd hde z1 z2 y1 y2 y3 y4 hm hn hT
  go_enter Tryd.func44, Tryd.ntmps44
  go_wp2_with fail
  generalize w.alloc _ = w1 at kr hB ⊢
  refine (O1.out _ hB).mono ?_
  rintro e w2 ⟨rfl, hb⟩
  replace kr := kr.below hb kr.lt
  replace hB := hB.trans (hb.mono hB.size)
  clear hb O1
  go_wp2_with fail
  refine (O2.out _ hB).mono ?_
  rintro e w3 ⟨rfl, hb⟩
  replace kr := kr.below hb kr.lt
  replace hB := hB.trans (hb.mono hB.size)
  clear hb O2
  go_wp2_with fail
  refine (D.out _ hB).mono ?_
  rintro e w4 ⟨rfl, hb⟩
  replace kr := kr.below hb kr.lt
  replace hB := hB.trans (hb.mono hB.size)
  obtain ⟨_, _, _, f0, f1, f2⟩ := kr.facts
  have HZ := Lib.hid (kr.put dn ds dt)
  clear hb D kr
  go_wp2
  refine bodyPost_ret (results_cell_two Tryd.results44 _ _ w.heap.size 27 #[.bool dn, .string ds, .string dt] (0, 0) _ (.int .i64 de) rfl rfl HZ.out Tryd.underlying27 rfl (by kernel_rfl)) rfl ?_
  exact ⟨by rw [HI.out, HE.out], ((hB.setCell (by simp) _).setCell (by simp) _).setCell (by simp) _⟩
end Go.Proofs.YthmgcbpmfipfiaaDoor
