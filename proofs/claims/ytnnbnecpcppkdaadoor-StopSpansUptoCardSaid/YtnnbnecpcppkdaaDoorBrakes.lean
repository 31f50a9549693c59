/- gantkeep5.brakes; what holds of the links that gantmake.Arm makes. Conditions: those typed. -/
import Derived.Test.YtnnbnecpcppkdaaDoorArmMk
import Derived.Test.YtnnbnecpcppkdaaDoorStopB
import Derived.Test.YtnnbnecpcppkdaaDoorFast
namespace Go.Proofs.YtnnbnecpcppkdaaDoor
open Go.RowKit Go.Gy
set_option linter.unusedVariables false
set_option maxRecDepth 100000 in
set_option maxHeartbeats 8000000 in
theorem brakesR (w : World) (hT : TabW w) :
    Hid (∀ W, Below w.heap.size w W → Calls Tryd.prog 14 #[] W fun r w' => r = .returned (.bool true) ∧ Below W.heap.size W w') := by
  obtain ⟨h, qh, _, lh, HF⟩ := halfR w hT
  obtain ⟨v, qv, _, lv, O2⟩ := ofR w hT 2
  obtain ⟨n, e, hTI, TK⟩ := ticksR w hT ⟨nilQ3, nilQ3, nilQ3, nilQ3, h, .slice none 0 0⟩ v lv lh
  have hne : n = 4 ∧ e = 0 := by
    have hTI : TicksIs h.q v.q n e := hTI
    rw [qh, show v.q = 2 from qv] at hTI
    have ha : absQ 2 = 2 := by decide +kernel
    rcases hTI with ⟨h, _⟩ | ⟨_, h, _⟩ | ⟨_, _, he, h0, h1, h2, h3⟩
    · exact absurd h (by decide +kernel)
    · exact absurd h (by decide +kernel)
    · refine ⟨?_, he⟩
      rw [ha] at h2 h3
      have e1 : ¬ n ≤ 3 := fun h => by
        have h4 : (n : Rat) ≤ ((3 : Int) : Rat) := Rat.intCast_le_intCast.mpr h
        have h5 : ((3 : Int) : Rat) = 3 := rfl
        grind
      have e2 : ¬ 5 ≤ n := fun h => by
        have h4 : ((5 : Int) : Rat) ≤ (n : Rat) := Rat.intCast_le_intCast.mpr h
        have h5 : ((5 : Int) : Rat) = 5 := rfl
        grind
      omega
  obtain ⟨rfl, rfl⟩ := hne
  refine Lib.hid fun W0 hW0 => ?_
  replace HF := up HF hW0
  replace O2 := up O2 hW0
  replace TK := up TK hW0
  have hI := In.start W0
  simp only [nilQ3] at TK
  clear qh qv hTI hT hW0
  go_enter Tryd.func14, Tryd.ntmps14
  go_wp2_with fail
  refine (HF.out _ hI.bel).mono ?_
  rintro e wn ⟨rfl, hb⟩
  replace hI := hI.call hb
  clear hb
  go_wp2_with fail
  refine (O2.out _ hI.bel).mono ?_
  rintro e wn ⟨rfl, hb⟩
  replace hI := hI.call hb
  clear hb
  go_wp2_with fail
  refine (TK.out _ hI.bel).mono ?_
  rintro e wn ⟨rfl, hb⟩
  replace hI := hI.call hb
  clear hb
  go_wp2
  go_ret
  exact ⟨rfl, hI.bel⟩
/-- x.Links of an arm that lies in no variable -/
theorem run_links (w : World) (nm : ByteArray) (px py t : Q3) (hf : Bool) (v : Value) : (Instr.field 37 (.agg #[.string nm, .bool px.neg, .string px.num, .string px.den, .bool py.neg, .string py.num, .string py.den, .bool hf, .bool t.neg, .string t.num, .string t.den, v]) 2).run Tryd.prog w = .ok v w := by kernel_rfl
theorem GenLk.brake {k : Lk} {l : List P2} (h : GenLk k l) : 0 < k.brake.q ∧ 1 ≤ 100 * k.brake.q ∧ k.brake.q ≤ 1 := by
  obtain ⟨c, a, e, d, f, zs, _, _, _, _, hf, ⟨_, _, _, _, hb⟩, _⟩ := h
  rw [hb]
  obtain ⟨m, hm⟩ : ∃ m, m = (10 + f).toNat := ⟨_, rfl⟩
  rw [← hm]
  have hm1 : 10 ≤ m ∧ m ≤ 29 := by omega
  have key : ∀ m : Fin 30, 10 ≤ m.val → (0 < mkRat 1 m.val ∧ 1 ≤ 100 * mkRat 1 m.val ∧ mkRat 1 m.val ≤ 1) := by decide +kernel
  exact key ⟨m, by omega⟩ hm1.1
theorem ratM_bound (x : Int) : absQ (ratM x) ≤ 8 := by
  unfold ratM
  obtain ⟨k, hk⟩ : ∃ k : Nat, x % 6 = k := ⟨(x % 6).toNat, by omega⟩
  have h6 : k < 6 := by omega
  have hd : denM x ≤ 8 ∧ 1 ≤ denM x := by
    unfold denM
    rw [hk, Int.toNat_natCast]
    rcases k with _ | _ | _ | _ | _ | _ | k
    all_goals first | exact ⟨by decide, by decide⟩ | omega
  have hn : -(8 * (denM x : Int)) ≤ numM x ∧ numM x ≤ 8 * (denM x : Int) := by
    unfold numM
    obtain ⟨d, hd'⟩ : ∃ d, d = denM x := ⟨_, rfl⟩
    rw [← hd'] at hd ⊢
    have h1 := Int.emod_nonneg (x.tdiv 6) (b := 16 * (d : Int) + 1) (by omega)
    have h2 := Int.emod_lt_of_pos (x.tdiv 6) (b := 16 * (d : Int) + 1) (by omega)
    omega
  obtain ⟨d, hd'⟩ : ∃ d, d = denM x := ⟨_, rfl⟩
  obtain ⟨n, hn'⟩ : ∃ n, n = numM x := ⟨_, rfl⟩
  rw [← hd'] at hd hn ⊢
  rw [← hn'] at hn ⊢
  have hd0 : (0 : Rat) < ((d : Int) : Rat) := by
    have h1 : ((0 : Int) : Rat) < ((d : Int) : Rat) := Rat.intCast_lt_intCast.mpr (by omega)
    exact h1
  have e : mkRat n d * ((d : Int) : Rat) = (n : Rat) := by
    rw [Rat.mkRat_eq_div]
    exact Rat.div_mul_cancel (by
      have : (((d : Nat) : Int) : Rat) = ((d : Nat) : Rat) := rfl
      rw [← this]
      grind)
  have h1 : ((-(8 * (d : Int)) : Int) : Rat) ≤ (n : Rat) := Rat.intCast_le_intCast.mpr hn.1
  have h2 : (n : Rat) ≤ ((8 * (d : Int) : Int) : Rat) := Rat.intCast_le_intCast.mpr hn.2
  rw [Rat.intCast_neg, Rat.intCast_mul] at h1
  rw [Rat.intCast_mul] at h2
  have h8 : ((8 : Int) : Rat) = 8 := rfl
  rw [h8] at h1 h2
  have g1 : mkRat n d ≤ 8 := Rat.le_of_mul_le_mul_right (by rw [e]; exact h2) hd0
  have g2 : -8 ≤ mkRat n d := Rat.le_of_mul_le_mul_right (by rw [e]; grind) hd0
  unfold absQ
  split <;> grind
theorem absQ_neg (v : Rat) : absQ (-v) = absQ v := by unfold absQ; split <;> split <;> grind
theorem ticks_neg {b v : Rat} {n e : Int} (h : TicksIs b v n e) : TicksIs b (-v) n e := by
  unfold TicksIs at h ⊢
  rw [absQ_neg]; exact h
theorem way_neg {b v : Rat} {n e : Int} (h : TicksIs b v n e) : wayQ b (-v) n = -wayQ b v n := by
  unfold wayQ
  by_cases h2 : n < 2
  · rw [if_pos h2, if_pos h2]; grind
  · rw [if_neg h2, if_neg h2, absQ_neg]
    have hv : v ≠ 0 := by
      rintro rfl
      have ha : absQ 0 = 0 := by decide +kernel
      rcases h with ⟨_, h, _⟩ | ⟨_, _, h, _⟩ | ⟨h0, _, _, _, _, _, h3⟩
      · omega
      · omega
      · rw [ha] at h3
        have h4 : ((2 : Int) : Rat) ≤ (n : Rat) := Rat.intCast_le_intCast.mpr (by omega)
        have h5 : ((2 : Int) : Rat) = 2 := rfl
        have h6 : 0 < ((n : Rat) - 1) * b := Rat.mul_pos (by grind) h0
        grind
    by_cases h1 : v < 0
    · rw [if_pos h1, if_neg (by grind)]; grind
    · rw [if_neg h1, if_pos (by grind)]
theorem slow_neg (b v : Rat) : slowQ b (-v) = -slowQ b v := by
  unfold slowQ
  rw [absQ_neg]
  by_cases h : b ≤ 0 ∨ absQ v ≤ b
  · rw [if_pos h, if_pos h]; grind
  · rw [if_neg h, if_neg h]
    have hv : v ≠ 0 := by
      rintro rfl
      have ha : absQ 0 = 0 := by decide +kernel
      rw [ha] at h
      grind
    by_cases h1 : 0 < v
    · rw [if_neg (by grind), if_pos h1]; grind
    · rw [if_pos (by grind), if_neg h1]; grind
theorem ticks_fine {b v : Rat} {n e : Int} (h : TicksIs b v n e) (hb : 0 < b) (hv : absQ v ≤ 2000 * b) : e = 0 := by
  rcases h with ⟨h1, _⟩ | ⟨_, h1, _⟩ | ⟨_, _, h1, _⟩
  · grind
  · grind
  · exact h1
end Go.Proofs.YtnnbnecpcppkdaaDoor
