/- zone.When. Conditions: those typed. -/
import Derived.Test.YthmgcbpmfipfiaaDoorZoneB
namespace Go.Proofs.YthmgcbpmfipfiaaDoor
open Go.RowKit Go.Gy
set_option linter.unusedVariables false
/-- the first tick at which the box is reached -/
def WhenIs (T : Int → Bool) (most r : Int) : Prop := ((most < 0 ∨ T most = false) ∧ r = -1) ∨ (0 ≤ r ∧ r ≤ most ∧ T r = true ∧ ∀ k, 0 ≤ k → k < r → T k = false)
def WhRel (w : World) (ls : List (Nat × TypeId × Array Value)) (T : Int → Bool) (most : Int) (low high : Value) (wr : World) : Prop :=
  ∃ a b : Int, low = .int .i64 a ∧ high = .int .i64 b ∧ 0 ≤ a ∧ a ≤ b ∧ b ≤ most ∧ T b = true ∧ (∀ k, 0 ≤ k → k < a → T k = false) ∧ In w ls wr
set_option maxRecDepth 100000 in
set_option maxHeartbeats 8000000 in
theorem when_any (w : World) (hT : TabW w) (p q x : Q3) (y : B4) {N M : Nat} (hp : p.le N) (hq : q.le N) (hx : x.le M) (hy : y.le 1099511627776) (most : Int) (hm : -9223372036854775808 ≤ most ∧ most ≤ 4611686018427387904) (hN : 1 ≤ N ∧ N ≤ 274877906944 ∧ 8 ≤ M ∧ M ≤ 137438953472 := by omega) :
    Calls Tryd.prog 49 #[.agg #[.bool p.neg, .string p.num, .string p.den, .bool q.neg, .string q.num, .string q.den], .agg #[.bool x.neg, .string x.num, .string x.den], .int .i64 most, .agg #[.bool y.a.neg, .string y.a.num, .string y.a.den, .bool y.b.neg, .string y.b.num, .string y.b.den, .bool y.c.neg, .string y.c.num, .string y.c.den, .bool y.d.neg, .string y.d.num, .string y.d.den]] w fun r w' => ∃ z, r = .returned (.int .i64 z) ∧ WhenIs (fun t => tchB p.q q.q (farV x.q t) y) most z ∧ Below w.heap.size w w' := by
  obtain ⟨T, hTT⟩ : ∃ T : Int → Bool, T = fun t => tchB p.q q.q (farV x.q t) y := ⟨_, rfl⟩
  have TO := Lib.hid (show ∀ t, -9223372036854775808 ≤ t ∧ t ≤ 9223372036854775807 → Hid (∀ W, Below w.heap.size w W → Calls Tryd.prog 50 #[.agg #[.bool p.neg, .string p.num, .string p.den, .bool q.neg, .string q.num, .string q.den], .agg #[.bool x.neg, .string x.num, .string x.den], .int .i64 t, .agg #[.bool y.a.neg, .string y.a.num, .string y.a.den, .bool y.b.neg, .string y.b.num, .string y.b.den, .bool y.c.neg, .string y.c.num, .string y.c.den, .bool y.d.neg, .string y.d.num, .string y.d.den]] W fun r w' => r = .returned (.bool (T t)) ∧ Below W.heap.size W w') from fun t ht => by rw [hTT]; exact touchR w hT p q x y hp hq hx hy t ht)
  have HMO := Lib.hid (show ∀ t t', t ≤ t' → T t = true → T t' = true from fun t t' h h1 => by rw [hTT] at h1 ⊢; exact tchB_mono (farV_mono h) h1)
  rw [← hTT]
  have hI := (((In.start w).alloc 58 #[.bool p.neg, .string p.num, .string p.den, .bool q.neg, .string q.num, .string q.den]).alloc 27 #[.bool x.neg, .string x.num, .string x.den]).alloc 64 #[.bool y.a.neg, .string y.a.num, .string y.a.den, .bool y.b.neg, .string y.b.num, .string y.b.den, .bool y.c.neg, .string y.c.num, .string y.c.den, .bool y.d.neg, .string y.d.num, .string y.d.den]
  rw [World.size_alloc, World.size_alloc] at hI
  clear hTT hT
  by_cases h0 : most < 0
  · have HX := Lib.hid (show WhenIs T most (-1) from .inl ⟨.inl h0, rfl⟩)
    go_enter Tryd.func49, Tryd.ntmps49
    go_wp2
    go_ret
    exact ⟨-1, rfl, HX.out, hI.bel⟩
  · have T0 := TO.out most (by omega)
    cases hm0 : T most with
    | false =>
      rw [hm0] at T0
      have HX := Lib.hid (show WhenIs T most (-1) from .inl ⟨.inr hm0, rfl⟩)
      clear hm0
      go_enter Tryd.func49, Tryd.ntmps49
      go_upto_region 1 with (fail)
      generalize World.alloc _ _ = W1 at hI ⊢
      have fx := hI.facts
      simp only [factsOf, cellsOf, Nat.zero_add, Nat.reduceAdd] at fx
      go_wp2_with fail
      refine (T0.out _ hI.bel).mono ?_
      rintro e wn ⟨rfl, hb⟩
      replace hI := hI.call hb
      clear fx
      go_wp2
      go_ret
      exact ⟨-1, rfl, HX.out, hI.bel⟩
    | true =>
      rw [hm0] at T0
      have Hm0 := Lib.hid hm0
      have hm62 : most ≤ 4611686018427387904 := hm.2
      obtain ⟨ls, hls⟩ : ∃ ls : List (Nat × TypeId × Array Value), ls = [(w.heap.size + 1 + 1, 64, #[.bool y.a.neg, .string y.a.num, .string y.a.den, .bool y.b.neg, .string y.b.num, .string y.b.den, .bool y.c.neg, .string y.c.num, .string y.c.den, .bool y.d.neg, .string y.d.num, .string y.d.den]), (w.heap.size + 1, 27, #[.bool x.neg, .string x.num, .string x.den]), (w.heap.size, 58, #[.bool p.neg, .string p.num, .string p.den, .bool q.neg, .string q.num, .string q.den])] := ⟨_, rfl⟩
      have Hls := Lib.hid hls
      clear hls hm0 hm
      go_enter Tryd.func49, Tryd.ntmps49
      go_upto_region 1 with (fail)
      generalize World.alloc _ _ = W1 at hI ⊢
      have fx := hI.facts
      simp only [factsOf, cellsOf, Nat.zero_add, Nat.reduceAdd] at fx
      go_wp2_with fail
      refine (T0.out _ hI.bel).mono ?_
      rintro e w2 ⟨rfl, hb⟩
      replace hI := hI.call hb
      have hst := Lib.hid (show WhRel w ls T most (.int .i64 0) (.int .i64 most) w2 from ⟨0, most, rfl, rfl, Int.le_refl _, by omega, Int.le_refl _, Hm0.out, fun k h1 h2 => by omega, by rw [Hls.out]; exact hI⟩)
      clear fx hb hI T0
      go_wp2_with fail
      go_loopw [9, 10] (fun low high wr => WhRel w ls T most low high wr) (fun low high _ => (intOf high - intOf low).toNat)
      case atStart => exact hst.out
      case round =>
        clear hst
        obtain ⟨a, b, rfl, rfl, ha, hab, hbm, hTb, hlow, hI⟩ := hrel
        rw [Hls.out] at hI
        rcases Int.lt_or_le a b with hlt | hge
        · obtain ⟨k, hk⟩ : ∃ k, k = a + (b - a) / 2 := ⟨_, rfl⟩
          have hk1 : a ≤ k ∧ k < b := by omega
          have hw1 : IntKind.i64.wrap (b - a) = b - a := by rw [IntKind.wrap_i64]; omega
          have hw2 : (b - a).tdiv 2 = (b - a) / 2 := Int.tdiv_eq_ediv_of_nonneg (by omega)
          have hw3 : IntKind.i64.wrap ((b - a) / 2) = (b - a) / 2 := by rw [IntKind.wrap_i64]; omega
          have hw4 : IntKind.i64.wrap (a + (b - a) / 2) = k := by rw [IntKind.wrap_i64]; omega
          have hw5 : IntKind.i64.wrap (k + 1) = k + 1 := by rw [IntKind.wrap_i64]; omega
          have hba : 0 ≤ b - a := by omega
          have TK := TO.out k (by omega)
          have Hk := Lib.hid hk
          have HTB := Lib.hid hTb
          have HLO := Lib.hid hlow
          clear hk hTb hlow
          have fx := hI.facts
          simp only [factsOf, cellsOf, Nat.zero_add, Nat.reduceAdd] at fx
          cases hT1 : T k with
          | true =>
            rw [hT1] at TK
            have HN := Lib.hid (show ∀ W, In w [(w.heap.size + 1 + 1, 64, #[.bool y.a.neg, .string y.a.num, .string y.a.den, .bool y.b.neg, .string y.b.num, .string y.b.den, .bool y.c.neg, .string y.c.num, .string y.c.den, .bool y.d.neg, .string y.d.num, .string y.d.den]), (w.heap.size + 1, 27, #[.bool x.neg, .string x.num, .string x.den]), (w.heap.size, 58, #[.bool p.neg, .string p.num, .string p.den, .bool q.neg, .string q.num, .string q.den])] W → WhRel w ls T most (.int .i64 a) (.int .i64 k) W from fun W hW => ⟨a, k, rfl, rfl, ha, hk1.1, by omega, hT1, HLO.out, by rw [Hls.out]; exact hW⟩)
            clear hT1
            go_wp2_with fail
            refine (TK.out _ hI.bel).mono ?_
            rintro e wn ⟨rfl, hb⟩
            have HX := Lib.hid (HN.out _ (hI.call hb))
            clear hb fx hI HN
            go_wp2_with fail
            go_roundw
            case rel => exact HX.out
            case measure => simp [intOf]; omega
          | false =>
            rw [hT1] at TK
            have HL2 : ∀ j, 0 ≤ j → j < k + 1 → T j = false := by
              intro j h1 h2
              cases hj : T j with
              | false => rfl
              | true =>
                have hh := HMO.out j k (by omega) hj
                rw [hT1] at hh
                cases hh
            have HN := Lib.hid (show ∀ W, In w [(w.heap.size + 1 + 1, 64, #[.bool y.a.neg, .string y.a.num, .string y.a.den, .bool y.b.neg, .string y.b.num, .string y.b.den, .bool y.c.neg, .string y.c.num, .string y.c.den, .bool y.d.neg, .string y.d.num, .string y.d.den]), (w.heap.size + 1, 27, #[.bool x.neg, .string x.num, .string x.den]), (w.heap.size, 58, #[.bool p.neg, .string p.num, .string p.den, .bool q.neg, .string q.num, .string q.den])] W → WhRel w ls T most (.int .i64 (k + 1)) (.int .i64 b) W from fun W hW => ⟨k + 1, b, rfl, rfl, by omega, by omega, hbm, HTB.out, HL2, by rw [Hls.out]; exact hW⟩)
            clear hT1 HL2
            go_wp2_with fail
            refine (TK.out _ hI.bel).mono ?_
            rintro e wn ⟨rfl, hb⟩
            have HX := Lib.hid (HN.out _ (hI.call hb))
            clear hb fx hI HN
            go_wp2_with fail
            go_roundw
            case rel => exact HX.out
            case measure => simp [intOf]; omega
        · obtain rfl : a = b := by omega
          have hlt : ¬ a < a := by omega
          have HX := Lib.hid (show WhenIs T most a from .inr ⟨ha, hbm, hTb, hlow⟩)
          clear hTb hlow
          go_wp2
          go_ret
          exact ⟨a, rfl, HX.out, hI.bel⟩
end Go.Proofs.YthmgcbpmfipfiaaDoor
