/- nat.cut, nat.evens: the leading zeros of digits, and the last ones. Conditions: those typed. -/
import Derived.Test.YthmgcbpmfipfiaaDoorGcdA
import Derived.Shelf.Spec.TrailingZeros
namespace Go.Proofs.YthmgcbpmfipfiaaDoor
open Go.RowKit Go.Gy
set_option linter.unusedVariables false
/-- the library's table is as it was laid -/
def Tab (w : World) : Prop := TabAt 1 Lib.deBruijn64tab w
theorem Tab.below {w w' : World} {B : Nat} (h : Tab w) (hb : Below B w w') (hB : 1 < B) : Tab w' := fun j hj => (hb.cell (p := ⟨1, j, none⟩) hB).trans (h j hj)
theorem Tab.chg {w w' : World} {g : Nat} (h : Tab w) (hc : Chg g w w') (hg : 1 ≠ g) (hs : 1 < w.heap.size) : Tab w' := fun j hj => (hc.cell hs hg).trans (h j hj)
set_option maxRecDepth 100000 in
set_option maxHeartbeats 1000000 in
theorem tz_any (w : World) (x : Nat) (hx : x < 18446744073709551616) (hx0 : x ≠ 0) (hT : Tab w) :
    Calls Tryd.prog 126 #[.int .u64 x] w fun e w' => e = .returned (.int .i64 (Lib.ctz 64 x)) ∧ w = w' := by
  obtain ⟨hlow, hk⟩ := Lib.lowest_bit 64 x hx0 hx
  obtain ⟨hi, htab⟩ := Lib.deBruijn64_at _ hk
  have hcell := hT _ hi
  rw [htab] at hcell
  have key := tz64_key x _ hx hx0 hlow
  obtain ⟨idx, hidx⟩ : ∃ idx, idx = 2 ^ Lib.ctz 64 x * 285870213051353865 % 18446744073709551616 / 288230376151711744 := ⟨_, rfl⟩
  rw [← hidx] at hcell hi key
  obtain ⟨k, hkk⟩ : ∃ k, k = Lib.ctz 64 x := ⟨_, rfl⟩
  rw [← hkk] at hcell hk ⊢
  have hx0i : ((x : Int) == 0) = false := by simp; omega
  clear hlow htab hidx hkk hT
  go_enter Tryd.func126, Tryd.ntmps126
  go_wp2_with (simp only [key])
  go_ret
  exact ⟨rfl, rfl⟩
/-- x is 2^e times an odd number -/
def OddAt (x e : Nat) : Prop := ∃ z, x = 2 ^ e * z ∧ z % 2 = 1
theorem ctz_odd {x : Nat} (hx : x < 18446744073709551616) (hx0 : x ≠ 0) : OddAt x (Lib.ctz 64 x) ∧ Lib.ctz 64 x < 64 := by
  obtain ⟨m, h1, h2⟩ := Lib.ctzFrom_spec 64 x (by omega) hx
  have e : Lib.ctz 64 x = Lib.ctzFrom 64 x := by unfold Lib.ctz; rw [if_neg hx0]
  rw [e]
  exact ⟨⟨2 * m + 1, h1, by omega⟩, h2⟩
theorem limb_odd {X k t : Nat} (h0 : X % 18446744073709551616 ^ k = 0) (h : OddAt (X / 18446744073709551616 ^ k % 18446744073709551616) t) (ht : t < 64) : OddAt X (64 * k + t) := by
  obtain ⟨z, h1, h2⟩ := h
  have e1 := Nat.mod_add_div X (18446744073709551616 ^ k)
  have e2 := Nat.mod_add_div (X / 18446744073709551616 ^ k) 18446744073709551616
  rw [h1] at e2
  rw [h0, Nat.zero_add] at e1
  refine ⟨z + 2 ^ (64 - t) * (X / 18446744073709551616 ^ k / 18446744073709551616), ?_, ?_⟩
  · rw [Nat.pow_add, Nat.mul_assoc, Nat.mul_add, ← Nat.mul_assoc (2 ^ t), ← Nat.pow_add, show t + (64 - t) = 64 by omega]
    rw [show (2 : Nat) ^ 64 = 18446744073709551616 from rfl, e2, Nat.pow_mul]
    exact e1.symm
  · obtain ⟨s, hs⟩ : ∃ s, 64 - t = s + 1 := ⟨63 - t, by omega⟩
    rw [hs, Nat.pow_succ, Nat.mul_comm _ 2, Nat.mul_assoc, Nat.add_mul_mod_self_left]
    exact h2
set_option maxRecDepth 100000 in
set_option maxHeartbeats 1000000 in
theorem cut_any (w : World) (g o n c X : Nat) (hL : Lim w g o n X) (hX : X < 18446744073709551616 ^ n) (hc : n ≤ c) (hn : n ≤ 17592186044416) :
    Calls Tryd.prog 127 #[.slice (some ⟨g, o, none⟩) n c] w fun e w' => e = .returned (.slice (some ⟨g, o, none⟩) (llen X) c) ∧ ∃ q, w' = w.drewN q := by
  have HL := Lib.hid hL
  have Hst := Lib.hid hX
  clear hL hX
  go_enter Tryd.func127, Tryd.ntmps127
  go_wp2
  go_loopw [0] (fun v wr => ∃ m q : Nat, v = .slice (some ⟨g, o, none⟩) m c ∧ m ≤ n ∧ Hid (X < 18446744073709551616 ^ m) ∧ wr = w.drewN q) (fun v _ => match v with | .slice _ m _ => m | _ => 0)
  case atStart => exact ⟨n, 0, rfl, Nat.le_refl _, Hst, rfl⟩
  case round =>
    obtain ⟨m, q, rfl, hm, HX, rfl⟩ := hrel
    by_cases h0 : 0 < m
    · obtain ⟨m1, rfl⟩ : ∃ m1, m = m1 + 1 := ⟨m - 1, by omega⟩
      have hcl := (HL.out.drewN q).cell (j := m1) (by omega)
      obtain ⟨x, hx⟩ : ∃ x, x = X / 18446744073709551616 ^ m1 % 18446744073709551616 := ⟨_, rfl⟩
      rw [← hx] at hcl
      have hm1 : ((m1 + 1 : Nat) : Int) - 1 = (m1 : Int) := by omega
      by_cases hx0 : x = 0
      · have hb : ((x : Int) == 0) = true := by rw [hx0]; rfl
        have HX2 := Lib.hid (top_zero (by omega) HX.out (by rw [← hx, hx0]))
        clear hx hx0
        go_wp2
        go_roundw
        case rel => exact ⟨m1, _, rfl, by omega, HX2, rfl⟩
        case measure => simp
      · have hb : ((x : Int) == 0) = false := by simp; omega
        have Hl := Lib.hid (show m1 + 1 = llen X by
          have h1 := (llen_le X (m1 + 1)).mpr HX.out
          have h2 := top_pos (B := 18446744073709551616) (m := m1) (X := X) (by omega) (by rw [← hx]; exact hx0)
          have h3 := llen_le X m1
          omega)
        clear hx hx0
        go_wp2
        go_ret
        exact ⟨by rw [← Hl.out]; rfl, _, rfl⟩
    · obtain rfl : m = 0 := by omega
      have Hl := Lib.hid (show 0 = llen X by
        have h1 := (llen_le X 0).mpr HX.out
        omega)
      go_wp2
      go_ret
      exact ⟨by rw [← Hl.out]; rfl, _, rfl⟩
set_option maxRecDepth 100000 in
set_option maxHeartbeats 1000000 in
theorem evens_any (w : World) (g o n c X : Nat) (hL : Lim w g o n X) (hX : X < 18446744073709551616 ^ n) (hX0 : X ≠ 0) (hc : n ≤ c) (hn : n ≤ 17592186044416) (hT : Tab w) :
    Calls Tryd.prog 117 #[.slice (some ⟨g, o, none⟩) n c] w fun e w' => ∃ k : Nat, e = .returned (.int .i64 (k : Int)) ∧ OddAt X k ∧ w = w' := by
  have HL := Lib.hid hL
  have HX := Lib.hid hX
  have HX0 := Lib.hid hX0
  have HT := Lib.hid hT
  have h0n : 0 < n := by
    rcases Nat.eq_zero_or_pos n with h | h
    · subst h; rw [Nat.pow_zero] at hX; omega
    · exact h
  clear hL hX hX0 hT
  go_enter Tryd.func117, Tryd.ntmps117
  go_wp2
  go_loop [3] (fun i => ∃ k : Nat, k < n ∧ i = .int .i64 k ∧ Hid (X % 18446744073709551616 ^ k = 0)) (fun i => n - (intOf i).toNat)
  case atStart => exact ⟨0, h0n, rfl, Lib.hid (Nat.mod_one _)⟩
  case round =>
    obtain ⟨k, hk, rfl, HM⟩ := hrel
    have hcl := HL.out.cell hk
    obtain ⟨x, hx⟩ : ∃ x, x = X / 18446744073709551616 ^ k % 18446744073709551616 := ⟨_, rfl⟩
    have hxl : x < 18446744073709551616 := by rw [hx]; exact Nat.mod_lt _ (by omega)
    have hmod := mod_succ 18446744073709551616 X k
    rw [← hx] at hcl hmod
    by_cases hx0 : x = 0
    · have hb : ((x : Int) == 0) = true := by rw [hx0]; rfl
      have hm0 : X % 18446744073709551616 ^ (k + 1) = 0 := by rw [hmod, HM.out, hx0]; rfl
      have hk1 : k + 1 < n := by
        rcases Nat.lt_or_ge (k + 1) n with h | h
        · exact h
        · rw [show k + 1 = n by omega, Nat.mod_eq_of_lt HX.out] at hm0
          exact absurd hm0 HX0.out
      have HM2 := Lib.hid hm0
      clear hx hx0 hmod hm0
      go_wp2
      go_round
      case rel => exact ⟨k + 1, hk1, by go_num, HM2⟩
      case measure => simp [intOf]; omega
    · have hb : ((x : Int) == 0) = false := by simp; omega
      have HZ := Lib.hid (tz_any w x hxl hx0 HT.out)
      obtain ⟨ho, ht⟩ := ctz_odd hxl hx0
      obtain ⟨t, htt⟩ : ∃ t, t = Lib.ctz 64 x := ⟨_, rfl⟩
      rw [← htt] at HZ ho ht
      have Ho := Lib.hid (limb_odd HM.out (by rw [← hx]; exact ho) ht)
      clear hx hx0 hmod ho htt
      go_wp2_with fail
      refine HZ.out.mono ?_
      rintro e w' ⟨rfl, rfl⟩
      go_wp2
      go_ret
      exact ⟨64 * k + t, ret_int (by omega), Ho.out, rfl⟩
theorem llen_lt_of {X Y : Nat} (h : llen X < llen Y) : X < Y := by
  have h1 := llen_lt X
  have h2 := llen_le Y (llen X)
  have h3 : ¬ Y < 18446744073709551616 ^ llen X := fun hh => by have := h2.mpr hh; omega
  omega
def LBRel (X Y n : Nat) (i : Value) : Prop := ∃ K : Nat, K ≤ n ∧ ((K = 0 ∧ i = .int .i64 (-1)) ∨ ∃ k : Nat, K = k + 1 ∧ i = .int .i64 k) ∧ Hid (X / 18446744073709551616 ^ K = Y / 18446744073709551616 ^ K)
set_option maxRecDepth 100000 in
set_option maxHeartbeats 1000000 in
theorem below_limbs (w : World) (g o c X g' o' c' Y : Nat) (hX : Lim w g o (llen X) X) (hY : Lim w g' o' (llen Y) Y) (hc : llen X ≤ c) (hc' : llen Y ≤ c') (hn : llen X ≤ 17592186044416) (hn' : llen Y ≤ 17592186044416) :
    Calls Tryd.prog 119 #[.slice (some ⟨g, o, none⟩) (llen X) c, .slice (some ⟨g', o', none⟩) (llen Y) c'] w fun e w' => e = .returned (.bool (decide (X < Y))) ∧ ∃ q, w' = w.drewN q := by
  obtain ⟨m, hm⟩ : ∃ m, m = llen X := ⟨_, rfl⟩
  obtain ⟨n, hnn⟩ : ∃ n, n = llen Y := ⟨_, rfl⟩
  have hXl := llen_lt X
  have hYl := llen_lt Y
  have hlt := @llen_lt_of X Y
  have hgt := @llen_lt_of Y X
  rw [← hm] at hX hc hn hXl hlt hgt ⊢
  rw [← hnn] at hY hc' hn' hYl hlt hgt ⊢
  by_cases hmn : m = n
  · subst hmn
    have HX := Lib.hid hX
    have HY := Lib.hid hY
    have Hst := Lib.hid (show LBRel X Y m (.int .i64 ((m : Int) - 1)) from ⟨m, Nat.le_refl _, idx_or m, Lib.hid (by rw [Nat.div_eq_of_lt hXl, Nat.div_eq_of_lt hYl])⟩)
    clear hm hnn hXl hYl hlt hgt hX hY
    go_enter Tryd.func119, Tryd.ntmps119
    go_wp2
    go_loopw [5] (fun i wr => LBRel X Y m i ∧ ∃ q, wr = w.drewN q) (fun i _ => (intOf i + 1).toNat)
    case atStart => exact ⟨Hst.out, 0, rfl⟩
    case round =>
      obtain ⟨⟨K, hK, hi, HE⟩, q, rfl⟩ := hrel
      rcases hi with ⟨rfl, rfl⟩ | ⟨k, rfl, rfl⟩
      · have Hd := Lib.hid (show decide (X < Y) = false by
          have := HE.out
          rw [Nat.pow_zero, Nat.div_one, Nat.div_one] at this
          rw [this]
          simp)
        go_wp2
        go_ret
        exact ⟨ret_bool Hd.out.symm, q, rfl⟩
      · have hkm : k < m := by omega
        have hkmi : (k : Int) < (m : Int) := by omega
        have cx := HX.out.cell (j := k) (by omega)
        have cy := HY.out.cell (j := k) (by omega)
        obtain ⟨x, hx⟩ : ∃ x, x = X / 18446744073709551616 ^ k % 18446744073709551616 := ⟨_, rfl⟩
        obtain ⟨y, hy⟩ : ∃ y, y = Y / 18446744073709551616 ^ k % 18446744073709551616 := ⟨_, rfl⟩
        rw [← hx] at cx
        rw [← hy] at cy
        by_cases hxy : x = y
        · have hb : ((x : Int) != (y : Int)) = false := by simp; omega
          have HE2 := Lib.hid (dig_same HE.out (by rw [← hx, ← hy]; exact hxy))
          clear hx hy
          subst hxy
          go_wp2
          go_quiet (fail)
          go_wp2
          go_roundw
          case rel => exact ⟨⟨k, by omega, idx_or k, HE2⟩, q + nq, rfl⟩
          case measure => simp [intOf]
        · have hb : ((x : Int) != (y : Int)) = true := by simp; omega
          have Hd := Lib.hid (show decide (x < y) = decide (X < Y) by
            rw [decide_eq_decide]
            constructor
            · intro h; exact dig_cmp (by omega) HE.out (by rw [← hx, ← hy]; exact h)
            · intro h
              rcases Nat.lt_or_ge x y with h1 | h1
              · exact h1
              · have := dig_cmp (B := 18446744073709551616) (X := Y) (Y := X) (i := k) (by omega) HE.out.symm (by rw [← hx, ← hy]; omega)
                omega)
          clear hx hy hxy
          go_wp2
          go_quiet (fail)
          go_wp2
          go_quiet (fail)
          go_wp2
          go_ret
          exact ⟨ret_bool (by rw [← Hd.out]), _, by rw [World.drewN_drewN, World.drewN_drewN]⟩
  · have Hd := Lib.hid (show decide (m < n) = decide (X < Y) by
      rw [decide_eq_decide]
      constructor
      · exact hlt
      · intro h
        rcases Nat.lt_or_ge m n with h1 | h1
        · exact h1
        · have := hgt (by omega)
          omega)
    have hb : ((m : Int) != (n : Int)) = true := by simp; omega
    clear hm hnn hXl hYl hlt hgt hX hY hmn
    go_enter Tryd.func119, Tryd.ntmps119
    go_wp2
    go_ret
    exact ⟨ret_bool (by rw [← Hd.out]), 0, rfl⟩
end Go.Proofs.YthmgcbpmfipfiaaDoor
