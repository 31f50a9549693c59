/- nat.Gcd: the greatest common divisor. Conditions: those typed. -/
import Derived.Test.YthmgcbpmfipfiaaDoorGcdD
namespace Go.Proofs.YthmgcbpmfipfiaaDoor
open Go.RowKit Go.Gy
set_option linter.unusedVariables false
theorem natS_empty (n : Nat) : (natS n).toList.isEmpty = decide (n = 0) := by
  rw [ByteArray.toList_eq, natS_list, Bool.eq_iff_iff, List.isEmpty_iff, decide_eq_true_iff]
  exact natL_nil
theorem natS_zero : natS 0 = { data := #[] } := by unfold natS; rw [natL_zero]
theorem natS_mono {a b : Nat} (h : a ≤ b) : (natS a).size ≤ (natS b).size := by rw [natS_size, natS_size]; exact natL_len_mono h
def GRel (w : World) (G S N : Nat) (x y : Value) (wr : World) : Prop := ∃ u v, x = .string (natS u) ∧ y = .string (natS v) ∧ Hid (Nat.gcd u v = G) ∧ (natS u).size ≤ S ∧ (natS v).size ≤ S ∧ u + v ≤ N ∧ Below w.heap.size w wr
def GCut (w : World) (G S N : Nat) (x y : Value) (wr : World) : Prop := ∃ u v, x = .string (natS u) ∧ y = .string (natS v) ∧ Hid (Nat.gcd u v = G) ∧ (natS u).size ≤ S ∧ (natS v).size ≤ (natS u).size ∧ u + v ≤ N ∧ u ≠ 0 ∧ v ≠ 0 ∧ Below w.heap.size w wr
set_option maxRecDepth 100000 in
set_option maxHeartbeats 4000000 in
theorem gcd_any (w : World) (s t : ByteArray) (hs : s.size ≤ 8796093022208) (ht : t.size ≤ 8796093022208) (hT : Tab w) (hg : 1 < w.heap.size) :
    Calls Tryd.prog 93 #[.string s, .string t] w fun e w' => e = .returned (.string (natS (Nat.gcd (sval s) (sval t)))) ∧ Below w.heap.size w w' := by
  have H1 := Lib.hid (trim_any w s (by omega))
  have H2 := Lib.hid (trim_any w t (by omega))
  have hl1 := sval_trim_le s
  have hl2 := sval_trim_le t
  obtain ⟨A, hA⟩ : ∃ A, A = sval s := ⟨_, rfl⟩
  obtain ⟨B, hB⟩ : ∃ B, B = sval t := ⟨_, rfl⟩
  rw [← hA] at H1 hl1 ⊢
  rw [← hB] at H2 hl2 ⊢
  obtain ⟨G, hG⟩ : ∃ G, G = Nat.gcd A B := ⟨_, rfl⟩
  rw [← hG]
  have Hst := Lib.hid (show GRel w G 8796093022208 (A + B) (.string (natS A)) (.string (natS B)) w from ⟨A, B, rfl, rfl, Lib.hid hG.symm, by omega, by omega, Nat.le_refl _, Below.refl _ _⟩)
  have HT := Lib.hid (show ∀ w', Below w.heap.size w w' → Tab w' from fun w' hb => hT.below hb hg)
  obtain ⟨sa, hsa⟩ : ∃ s, s = natS A := ⟨_, rfl⟩
  obtain ⟨sb, hsb⟩ : ∃ s, s = natS B := ⟨_, rfl⟩
  rw [← hsa] at H1 Hst
  rw [← hsb] at H2 Hst
  clear hA hB hG hT hsa hsb hl1 hl2
  go_enter Tryd.func93, Tryd.ntmps93
  go_wp2_with fail
  refine H1.out.mono ?_
  rintro e w' ⟨rfl, rfl⟩
  go_wp2_with fail
  refine H2.out.mono ?_
  rintro e w' ⟨rfl, rfl⟩
  go_wp2_with fail
  go_loopg [0, 1] (A + B) (fun N x y wr => GRel w G 8796093022208 N x y wr)
  case atStart => exact Hst.out
  case round =>
    obtain ⟨u, v, rfl, rfl, HG, hsu, hsv, hN, hbw⟩ := hrel
    have eu := natS_empty u
    have ev := natS_empty v
    by_cases hu : u = 0
    · rw [decide_eq_true hu] at eu
      have eu2 : (!(natS u).toList.isEmpty) = false := by rw [eu]; rfl
      have HP := Lib.hid (show natS u ++ natS v = natS G by rw [← HG.out, hu, Nat.gcd_zero_left, natS_zero]; apply ByteArray.ext; simp)
      obtain ⟨a, ha⟩ : ∃ a, a = natS u := ⟨_, rfl⟩
      obtain ⟨b, hb⟩ : ∃ b, b = natS v := ⟨_, rfl⟩
      rw [← ha] at eu eu2 HP hsu ⊢
      rw [← hb] at ev HP hsv ⊢
      clear hu ha hb ev
      go_wp2
      go_ret
      exact ⟨ret_str HP.out, hbw⟩
    · rw [decide_eq_false hu] at eu
      have eu2 : (!(natS u).toList.isEmpty) = true := by rw [eu]; rfl
      by_cases hv : v = 0
      · rw [decide_eq_true hv] at ev
        have ev2 : (!(natS v).toList.isEmpty) = false := by rw [ev]; rfl
        have HP := Lib.hid (show natS u ++ natS v = natS G by rw [← HG.out, hv, Nat.gcd_zero_right, natS_zero]; apply ByteArray.ext; simp)
        obtain ⟨a, ha⟩ : ∃ a, a = natS u := ⟨_, rfl⟩
        obtain ⟨b, hb⟩ : ∃ b, b = natS v := ⟨_, rfl⟩
        rw [← ha] at eu eu2 HP hsu ⊢
        rw [← hb] at ev ev2 HP hsv ⊢
        clear hu hv ha hb
        go_wp2
        go_ret
        exact ⟨ret_str HP.out, hbw⟩
      · rw [decide_eq_false hv] at ev
        have ev2 : (!(natS v).toList.isEmpty) = true := by rw [ev]; rfl
        have HC1 := Lib.hid (show (natS v).size ≤ (natS u).size → GCut w G 8796093022208 gk (.string (natS u)) (.string (natS v)) wr from fun h => ⟨u, v, rfl, rfl, HG, hsu, h, hN, hu, hv, hbw⟩)
        have HC2 := Lib.hid (show (natS u).size ≤ (natS v).size → GCut w G 8796093022208 gk (.string (natS v)) (.string (natS u)) wr from fun h => ⟨v, u, rfl, rfl, Lib.hid (by rw [Nat.gcd_comm]; exact HG.out), hsv, h, by omega, hv, hu, hbw⟩)
        obtain ⟨a, ha⟩ : ∃ a, a = natS u := ⟨_, rfl⟩
        obtain ⟨b, hb⟩ : ∃ b, b = natS v := ⟨_, rfl⟩
        rw [← ha] at eu eu2 hsu HC1 HC2 ⊢
        rw [← hb] at ev ev2 hsv HC1 HC2 ⊢
        clear hu hv ha hb HG hN hbw
        go_upto_if 22 with (fail)
        go_cut [0, 1] (fun x y wx => GCut w G 8796093022208 gk x y wx)
        case first =>
          by_cases hab : a.size < b.size
          · go_wp2
            go_meet
            exact HC2.out (by omega)
          · go_wp2
            go_meet
            exact HC1.out (by omega)
        case rest =>
          obtain ⟨u, v, rfl, rfl, HG, hsu, hsv, hN, hu, hv, hbw⟩ := hcut
          have hz1 := natL_len_le u 8
          have hz2 := natL_len_le v 8
          rw [← natS_size] at hz1 hz2
          by_cases h8 : (natS u).size ≤ 8
          · have hu8 : u < 18446744073709551616 := hz1.mp h8
            have hv8 : v < 18446744073709551616 := hz2.mp (by omega)
            have S1 := Lib.hid (fun w => short_any w (natS u) h8)
            have S2 := Lib.hid (fun w => short_any w (natS v) (by omega))
            rw [sval_natS] at S1 S2
            have C1 := Lib.hid (fun w => common_any w u v hu8 hv8)
            rw [HG.out] at C1
            have hGl : G < 18446744073709551616 := by rw [← HG.out]; exact Nat.lt_of_le_of_lt (Nat.gcd_le_left _ (Nat.pos_of_ne_zero hu)) hu8
            have F1 := Lib.hid (fun w => fromShort_any w G hGl)
            obtain ⟨a, ha⟩ : ∃ a, a = natS u := ⟨_, rfl⟩
            obtain ⟨b, hb⟩ : ∃ b, b = natS v := ⟨_, rfl⟩
            rw [← ha] at S1 h8 hsv ⊢
            rw [← hb] at S2 hsv ⊢
            clear hz1 hz2 hsu hu hv ha hb HC1 HC2
            go_wp2_with fail
            refine (S1.out _).mono ?_
            rintro e w' ⟨rfl, rfl⟩
            go_wp2_with fail
            refine (S2.out _).mono ?_
            rintro e w' ⟨rfl, rfl⟩
            go_wp2_with fail
            refine (C1.out _).mono ?_
            rintro e w' ⟨rfl, q, rfl⟩
            go_wp2_with fail
            refine (F1.out _).mono ?_
            rintro e w' ⟨rfl, hb4⟩
            go_wp2
            go_ret
            have hbq := below_drewN hbw q
            exact ⟨rfl, hbq.trans (hb4.mono hbq.size)⟩
          · by_cases h9 : (natS u).size ≤ (natS v).size + 8
            · have H := Lib.hid (halves_any wc u v hu hv hsu (by omega) (HT.out wc hbw) (Nat.lt_of_lt_of_le hg hbw.size))
              rw [HG.out] at H
              have h9i : ((natS u).size : Int) ≤ ((natS v).size : Int) + 8 := by omega
              have hsv2 : (natS v).size ≤ 8796093022208 := by omega
              obtain ⟨a, ha⟩ : ∃ a, a = natS u := ⟨_, rfl⟩
              obtain ⟨b, hb⟩ : ∃ b, b = natS v := ⟨_, rfl⟩
              rw [← ha] at H h8 h9 hsu h9i ⊢
              rw [← hb] at H h9 hsv2 h9i ⊢
              clear hz1 hz2 hu hv ha hb HC1 HC2 hsv
              go_wp2_with fail
              refine H.out.mono ?_
              rintro e w' ⟨rfl, hb4⟩
              go_wp2
              go_ret
              exact ⟨rfl, hbw.trans (hb4.mono hbw.size)⟩
            · have hlt : v < u := by
                rcases Nat.lt_or_ge v u with h | h
                · exact h
                · have := natS_mono h; omega
              have hvp := Nat.pos_of_ne_zero hv
              have hml : u % v < v := Nat.mod_lt _ hvp
              have D := Lib.hid (div_any wc (natS u) (natS v) hsu (by omega))
              rw [sval_natS, sval_natS] at D
              have hD : divF u v = (u / v, u % v, 0) := by unfold divF; rw [if_neg hv]
              have D' := Lib.hid (show Calls Tryd.prog 94 #[.string (natS u), .string (natS v)] wc fun e w' => e = .returned (.tuple #[.string (natS (u / v)), .string (natS (u % v)), .int .i64 0]) ∧ Below wc.heap.size wc w' from D.out.mono fun e w' h => by
                obtain ⟨h1, h2⟩ := h
                rw [hD] at h1
                exact ⟨h1, h2⟩)
              have HP := Lib.hid (show ∀ w', Below wc.heap.size wc w' → GRel w G 8796093022208 (gk - 1) (.string (natS v)) (.string (natS (u % v))) w' from fun w' hb => ⟨v, u % v, rfl, rfl, Lib.hid (by rw [gcd_step hvp]; exact HG.out), by omega, by have := natS_mono (Nat.le_of_lt hml); omega, by omega, hbw.trans (hb.mono hbw.size)⟩)
              have hgk : gk - 1 < gk := by omega
              have h9i : ¬ ((natS u).size : Int) ≤ ((natS v).size : Int) + 8 := by omega
              have hsv2 : (natS v).size ≤ 8796093022208 := by omega
              obtain ⟨a, ha⟩ : ∃ a, a = natS u := ⟨_, rfl⟩
              obtain ⟨b, hb⟩ : ∃ b, b = natS v := ⟨_, rfl⟩
              obtain ⟨c, hc⟩ : ∃ c, c = natS (u % v) := ⟨_, rfl⟩
              obtain ⟨d, hd⟩ : ∃ c, c = natS (u / v) := ⟨_, rfl⟩
              rw [← ha] at D' h8 h9 hsu h9i ⊢
              rw [← hb] at D' HP h9 hsv2 h9i ⊢
              rw [← hc] at D' HP
              rw [← hd] at D'
              clear hz1 hz2 hu hv ha hb hc hd HC1 HC2 hsv hD D hlt hvp hml
              go_wp2_with fail
              refine D'.out.mono ?_
              rintro e w' ⟨rfl, hb4⟩
              go_wp2
              go_roundg (gk - 1)
              case measure => exact hgk
              case rel => exact HP.out _ hb4
end Go.Proofs.YthmgcbpmfipfiaaDoor
