/- msg.Check and the second implementation's MsgFault. Conditions: those typed. -/
import Derived.Test.YtpnefacignalpaaGrid
namespace Go.Proofs.Ytpnefacignalpaa
open Go.RowKit Go.Gy
set_option linter.unusedVariables false

set_option maxRecDepth 100000 in
set_option maxHeartbeats 4000000 in
theorem msgfault_any (w : World) (m : GMsg) (A : Option Addr) (n c : Nat) (hm : m.cells.length = n) :
    Calls Try.prog 18 #[msgV m A n c] w fun e w' => e = .returned (.int .i64 ((msgF0 m : Nat) : Int)) ∧ Below w.heap.size w w' := by
  obtain ⟨k, s, d, q, t, l⟩ := m
  have hb : ∀ X, Below w.heap.size w (w.alloc X) := fun X => (Below.refl _ _).alloc (Nat.le_refl _) _
  have Hb := Lib.hid hb
  clear hb
  obtain ⟨r, hr⟩ : ∃ r, r = msgF0 ⟨k, s, d, q, t, l⟩ := ⟨_, rfl⟩
  rw [← hr]
  unfold msgF0 at hr
  simp only at hr hm
  by_cases h1 : k < 0 ∨ 3 < k
  · rw [if_pos h1] at hr
    subst hr
    have hc : k < 0 ∨ (0 ≤ k ∧ 3 < k) := by omega
    clear h1 hm
    rcases hc with h | ⟨h, h'⟩
    all_goals
      go_enter Try.func18, Try.ntmps18
      go_wp2
      go_ret
      exact ⟨rfl, Hb.out _⟩
  · rw [if_neg h1] at hr
    by_cases h2 : s < 0 ∨ 4 < s ∨ d < 0 ∨ 4 < d ∨ s = d
    · rw [if_pos h2] at hr
      subst hr
      have k1 : 0 ≤ k := by omega
      have k2 : k ≤ 3 := by omega
      have hc : s < 0 ∨ (0 ≤ s ∧ 4 < s) ∨ (0 ≤ s ∧ s ≤ 4 ∧ d < 0) ∨ (0 ≤ s ∧ s ≤ 4 ∧ 0 ≤ d ∧ 4 < d) ∨ (0 ≤ s ∧ s ≤ 4 ∧ 0 ≤ d ∧ d ≤ 4 ∧ s = d) := by omega
      clear h1 h2 hm
      rcases hc with h | ⟨h, h'⟩ | ⟨h, h', h''⟩ | ⟨h, h', h'', h3⟩ | ⟨h, h', h'', h3, rfl⟩
      all_goals
        go_enter Try.func18, Try.ntmps18
        go_wp2
        go_ret
        exact ⟨rfl, Hb.out _⟩
    · rw [if_neg h2] at hr
      have k1 : 0 ≤ k := by omega
      have k2 : k ≤ 3 := by omega
      have s1 : 0 ≤ s := by omega
      have s2 : s ≤ 4 := by omega
      have d1 : 0 ≤ d := by omega
      have d2 : d ≤ 4 := by omega
      have sd : (s == d) = false := by simp; omega
      clear h1 h2
      by_cases h3 : q < 0 ∨ 2147483647 < q
      · rw [if_pos h3] at hr
        subst hr
        have hc : q < 0 ∨ (0 ≤ q ∧ 2147483648 ≤ q) := by omega
        clear h3 hm
        rcases hc with h | ⟨h, h'⟩
        all_goals
          go_enter Try.func18, Try.ntmps18
          go_wp2
          go_ret
          exact ⟨rfl, Hb.out _⟩
      · rw [if_neg h3] at hr
        have q1 : 0 ≤ q := by omega
        have q2 : q < 2147483648 := by omega
        clear h3
        by_cases h4 : k = 3
        · subst h4
          by_cases h5 : n = 0
          · have hl : l = [] := List.eq_nil_of_length_eq_zero (hm.trans h5)
            rw [if_neg (by simp [hl])] at hr
            subst h5 hr
            clear hm hl
            go_enter Try.func18, Try.ntmps18
            go_wp2
            go_ret
            exact ⟨rfl, Hb.out _⟩
          · have hl : l ≠ [] := fun h => h5 (by rw [← hm, h]; rfl)
            rw [if_pos ⟨rfl, hl⟩] at hr
            subst hr
            have hn : ((n : Int) != 0) = true := by simp; omega
            have hn' : ¬ (n : Int) = 0 := by omega
            clear hm hl h5
            go_enter Try.func18, Try.ntmps18
            go_wp2
            go_ret
            exact ⟨rfl, Hb.out _⟩
        · rw [if_neg (fun h => h4 h.1)] at hr
          subst hr
          have hk : (k == 3) = false := by simpa using h4
          clear hm h4
          go_enter Try.func18, Try.ntmps18
          go_wp2
          go_ret
          exact ⟨rfl, Hb.out _⟩
set_option maxRecDepth 100000 in
set_option maxHeartbeats 4000000 in
theorem check_any (w : World) (m : GMsg) (A : Option Addr) (n c : Nat) (hm : MsgAt w w.heap.size m A n c) :
    Calls Try.prog 33 #[msgV m A n c] w fun e w' => e = .returned (.int .i64 ((msgF m : Nat) : Int)) ∧ Below w.heap.size w w' := by
  obtain ⟨k, s, d, q, t, l⟩ := m
  have hb : ∀ X, Below w.heap.size w (w.alloc X) := fun X => (Below.refl _ _).alloc (Nat.le_refl _) _
  have Hb := Lib.hid hb
  have hm' : l.length = n := hm.len
  have Hm := Lib.hid (fun X => grid_any (w.alloc X) A n c l hm.len ((hm.rd.below (hb X)).more (by simp)))
  clear hb hm
  obtain ⟨r, hr⟩ : ∃ r, r = msgF ⟨k, s, d, q, t, l⟩ := ⟨_, rfl⟩
  rw [← hr]
  have hf : r = if msgF0 ⟨k, s, d, q, t, l⟩ = 0 then cellsF l else msgF0 ⟨k, s, d, q, t, l⟩ := hr
  clear hr
  unfold msgF0 at hf
  simp only at hf
  by_cases h1 : k < 0 ∨ 3 < k
  · rw [if_pos h1] at hf
    simp at hf
    subst hf
    have hc : k < 0 ∨ (0 ≤ k ∧ 3 < k) := by omega
    clear h1 hm'
    rcases hc with h | ⟨h, h'⟩
    all_goals
      go_enter Try.func33, Try.ntmps33
      go_wp2
      go_ret
      exact ⟨rfl, Hb.out _⟩
  · rw [if_neg h1] at hf
    by_cases h2 : s < 0 ∨ 4 < s ∨ d < 0 ∨ 4 < d ∨ s = d
    · rw [if_pos h2] at hf
      simp at hf
      subst hf
      have k1 : 0 ≤ k := by omega
      have k2 : k ≤ 3 := by omega
      have hc : (d < s ∧ d < 0) ∨ (d < s ∧ 0 ≤ d ∧ 4 < s) ∨ (s < d ∧ s < 0) ∨ (s < d ∧ 0 ≤ s ∧ 4 < d) ∨ (s ≤ d ∧ d ≤ s ∧ s = d) := by omega
      clear h1 h2 hm'
      rcases hc with ⟨h, h'⟩ | ⟨h, h', h''⟩ | ⟨h, h'⟩ | ⟨h, h', h''⟩ | ⟨_, h', rfl⟩
      all_goals
        go_enter Try.func33, Try.ntmps33
        go_wp2 <;> (go_ret; exact ⟨rfl, Hb.out _⟩)
    · rw [if_neg h2] at hf
      have k1 : 0 ≤ k := by omega
      have k2 : k ≤ 3 := by omega
      have s1 : 0 ≤ s := by omega
      have s2 : s ≤ 4 := by omega
      have d1 : 0 ≤ d := by omega
      have d2 : d ≤ 4 := by omega
      have sd : (s == d) = false := by simp; omega
      have hor : s < d ∨ d < s := by omega
      clear h1 h2
      by_cases h3 : q < 0 ∨ 2147483647 < q
      · rw [if_pos h3] at hf
        simp at hf
        subst hf
        have hc : q < 0 ∨ (0 ≤ q ∧ 2147483647 < q) := by omega
        clear h3 hm'
        rcases hor with ho | ho <;> rcases hc with h | ⟨h, h'⟩
        all_goals
          go_enter Try.func33, Try.ntmps33
          go_wp2
          go_ret
          exact ⟨rfl, Hb.out _⟩
      · rw [if_neg h3] at hf
        have q1 : 0 ≤ q := by omega
        have q2 : q ≤ 2147483647 := by omega
        clear h3
        by_cases h4 : k = 3
        · subst h4
          by_cases h5 : n = 0
          · have hl : l = [] := List.eq_nil_of_length_eq_zero (hm'.trans h5)
            rw [show (if (3 : Int) = 3 ∧ l ≠ [] then (3 : Nat) else 0) = 0 from if_neg (by simp [hl]), if_pos rfl] at hf
            subst h5 hf
            clear hm' hl
            rcases hor with ho | ho
            all_goals
              go_enter Try.func33, Try.ntmps33
              go_wp2_with fail
              refine (Hm.out _).mono ?_
              rintro e w' ⟨rfl, hb⟩
              go_wp2
              go_ret
              exact ⟨rfl, (Hb.out _).trans (hb.mono (by simp))⟩
          · have hl : l ≠ [] := fun h => h5 (by rw [← hm', h]; rfl)
            rw [show (if (3 : Int) = 3 ∧ l ≠ [] then (3 : Nat) else 0) = 3 from if_pos ⟨rfl, hl⟩] at hf
            simp at hf
            subst hf
            have hn : (0 : Int) < (n : Int) := by omega
            clear hm' hl h5
            rcases hor with ho | ho
            all_goals
              go_enter Try.func33, Try.ntmps33
              go_wp2
              go_ret
              exact ⟨rfl, Hb.out _⟩
        · rw [show (if k = 3 ∧ l ≠ [] then (3 : Nat) else 0) = 0 from if_neg (fun h => h4 h.1), if_pos rfl] at hf
          subst hf
          have hk : (k == 3) = false := by simpa using h4
          clear hm' h4
          rcases hor with ho | ho
          all_goals
            go_enter Try.func33, Try.ntmps33
            go_wp2_with fail
            refine (Hm.out _).mono ?_
            rintro e w' ⟨rfl, hb⟩
            go_wp2
            go_ret
            exact ⟨rfl, (Hb.out _).trans (hb.mono (by simp))⟩
end Go.Proofs.Ytpnefacignalpaa
