/- stop.fits. Conditions: those typed. -/
import Derived.Test.YtnnbnecpcppkdaaDoorArmD
namespace Go.Proofs.YtnnbnecpcppkdaaDoor
open Go.RowKit Go.Gy
set_option linter.unusedVariables false
/-- what stop.fits says -/
def FitsE (a : Ar) (n m : Nat) (e : Int) : Prop := ∃ c, ArmE a c ∧ ((c ≠ 0 ∧ e = c) ∨ (c = 0 ∧ (n ≠ a.L.length ∨ m ≠ a.L.length) ∧ e = 1) ∨ (c = 0 ∧ n = a.L.length ∧ m = a.L.length ∧ e = 0))
theorem FitsE.uniq {a : Ar} {n m : Nat} {e e' : Int} (h : FitsE a n m e) (h' : FitsE a n m e') : e = e' := by
  obtain ⟨c, h1, h2⟩ := h
  obtain ⟨c', g1, g2⟩ := h'
  obtain rfl := h1.uniq g1
  omega
theorem FitsE.zero {a : Ar} {n m : Nat} (h : FitsE a n m 0) : ArmE a 0 ∧ n = a.L.length ∧ m = a.L.length := by
  obtain ⟨c, h1, ⟨h2, h3⟩ | ⟨_, _, h3⟩ | ⟨h2, h3, h4, _⟩⟩ := h
  · omega
  · omega
  · subst h2; exact ⟨h1, h3, h4⟩
theorem FitsE.ok {a : Ar} (h : ArmE a 0) : FitsE a a.L.length a.L.length 0 := ⟨0, h, .inr (.inr ⟨rfl, rfl, rfl, rfl⟩)⟩
set_option maxRecDepth 100000 in
set_option maxHeartbeats 8000000 in
theorem fits_any (w : World) (hT : TabW w) (a : Ar) {N : Nat} (hA : a.At w w.heap.size) (hle : a.le N) (hN : 1 ≤ N ∧ N ≤ 68719476736) (A1 A2 : Option Addr) (n1 c1 n2 c2 : Nat) :
    Calls Tryd.prog 74 #[a.val, .slice A1 n1 c1, .slice A2 n2 c2] w fun r w' => ∃ e, r = .returned (.int .i64 e) ∧ FitsE a n1 n2 e ∧ Below w.heap.size w w' := by
  have HCK := Lib.hid (fun W (hW : Below w.heap.size w W) => armCheck_any W (tabs w hT hW) a (hA.up hW) hle hN)
  obtain ⟨ar, har⟩ : ∃ ar, ar = a := ⟨_, rfl⟩
  rw [← har] at HCK ⊢
  obtain ⟨nm, ⟨px, py⟩, hf, t, va, L⟩ := a
  obtain ⟨⟨A9, n9, c9, hva, hNL, _⟩, _⟩ := hA
  obtain rfl : va = .slice A9 n9 c9 := hva
  obtain rfl : L.length = n9 := (Ar.ks_len ⟨nm, ⟨px, py⟩, hf, t, .slice A9 n9 c9, L⟩).symm.trans hNL
  have hval : ar.val = .agg #[.string nm, .bool px.neg, .string px.num, .string px.den, .bool py.neg, .string py.num, .string py.den, .bool hf, .bool t.neg, .string t.num, .string t.den, .slice A9 L.length c9] := by rw [har]; rfl
  have hLL : ar.L.length = L.length := by rw [har]
  rw [hval] at HCK ⊢
  have HE1 := Lib.hid (show ∀ c, ArmE ar c → c ≠ 0 → FitsE ar n1 n2 c from fun c h h0 => ⟨c, h, .inl ⟨h0, rfl⟩⟩)
  have HE2 := Lib.hid (show ArmE ar 0 → (n1 ≠ L.length ∨ n2 ≠ L.length) → FitsE ar n1 n2 1 from fun h h0 => ⟨0, h, .inr (.inl ⟨rfl, by rw [hLL]; exact h0, rfl⟩)⟩)
  have HE3 := Lib.hid (show ArmE ar 0 → n1 = L.length → n2 = L.length → FitsE ar n1 n2 0 from fun h h1 h2 => ⟨0, h, .inr (.inr ⟨rfl, by rw [hLL]; exact h1, by rw [hLL]; exact h2, rfl⟩)⟩)
  have hI := (In.start w).alloc 37 #[.string nm, .bool px.neg, .string px.num, .string px.den, .bool py.neg, .string py.num, .string py.den, .bool hf, .bool t.neg, .string t.num, .string t.den, .slice A9 L.length c9]
  clear hval har hNL hle hT hLL
  go_enter Tryd.func74, Tryd.ntmps74
  go_upto_region 1 with (fail)
  generalize World.alloc _ _ = W1 at hI ⊢
  have fx := hI.facts
  simp only [factsOf, cellsOf, Nat.zero_add, Nat.reduceAdd] at fx
  go_wp2_with fail
  refine (HCK.out _ hI.bel).mono ?_
  rintro e wn ⟨c, rfl, hc, hb⟩
  replace hI := hI.call hb
  clear hb fx HCK
  have fx := hI.facts
  simp only [factsOf, cellsOf, Nat.zero_add, Nat.reduceAdd] at fx
  by_cases h0 : c = 0
  · subst h0
    have HC := Lib.hid hc
    clear hc
    by_cases h1 : n1 = L.length
    · have g1 : ((n1 : Int) != (L.length : Int)) = false := by simp [h1]
      by_cases h2 : n2 = L.length
      · have g2 : ((n2 : Int) != (L.length : Int)) = false := by simp [h2]
        have HX := Lib.hid (HE3.out HC.out h1 h2)
        clear h1 h2
        go_wp2
        go_ret
        exact ⟨0, rfl, HX.out, hI.bel⟩
      · have g2 : ((n2 : Int) != (L.length : Int)) = true := by simpa using (fun h : (n2 : Int) = L.length => h2 (by omega))
        have HX := Lib.hid (HE2.out HC.out (.inr h2))
        clear h1 h2
        go_wp2
        go_ret
        exact ⟨1, rfl, HX.out, hI.bel⟩
    · have g1 : ((n1 : Int) != (L.length : Int)) = true := by simpa using (fun h : (n1 : Int) = L.length => h1 (by omega))
      have HX := Lib.hid (HE2.out HC.out (.inl h1))
      clear h1
      go_wp2
      go_ret
      exact ⟨1, rfl, HX.out, hI.bel⟩
  · have h01 : (c == 0) = false := by simpa using h0
    have h02 : (c != 0) = true := by simpa using h0
    have HX := Lib.hid (HE1.out c hc h0)
    clear hc
    go_wp2
    go_ret
    exact ⟨c, rfl, HX.out, hI.bel⟩
end Go.Proofs.YtnnbnecpcppkdaaDoor
