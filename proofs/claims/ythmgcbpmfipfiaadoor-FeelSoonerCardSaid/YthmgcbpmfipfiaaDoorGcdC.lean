/- nat.right, nat.minus: shifts and differences in place. Conditions: those typed. -/
import Derived.Test.YthmgcbpmfipfiaaDoorGcdB
import Derived.Shelf.Spec.BitsCarry
namespace Go.Proofs.YthmgcbpmfipfiaaDoor
open Go.RowKit Go.Gy
set_option linter.unusedVariables false
/-- the stand-in of math/bits.Sub64 -/
theorem sub64_run (x y b : Nat) (hb : b ≤ 1) (w : World) :
    (callFunc 128 #[.int .u64 x, .int .u64 y, .int .u64 b]).run Tryd.prog w =
      .ok (.value (.tuple #[.int .u64 (((x + 18446744073709551616 - y - b) % 18446744073709551616 : Nat) : Int), .int .u64 ((if x < y + b then 1 else 0 : Nat) : Int)])) w := by
  rw [run_callFunc_extern Tryd.func128 (by kernel_rfl) (by kernel_rfl) (by kernel_rfl) (e := sub64Entry) (by kernel_rfl), run_sub64 x y b hb]
  rfl
theorem shr64 {U b i : Nat} (hb : b < 64) : U / 2 ^ b / 18446744073709551616 ^ i % 18446744073709551616 = U / 18446744073709551616 ^ i % 18446744073709551616 / 2 ^ b + U / 18446744073709551616 ^ (i + 1) % 18446744073709551616 * 2 ^ (64 - b) % 18446744073709551616 := by
  have h := shr_dig (p := 2 ^ b) (q := 2 ^ (64 - b)) (U := U) (i := i) (Nat.pow_pos (by omega)) (Nat.pow_pos (by omega))
  rwa [← Nat.pow_add, show b + (64 - b) = 64 by omega] at h
def MinRel (w : World) (gx ox m X Y : Nat) (c i : Value) (wr : World) : Prop := ∃ k : Nat, k ≤ m ∧ i = .int .i64 k ∧ c = .int .u64 ((subB 18446744073709551616 X Y k : Nat) : Int) ∧ Lim wr gx ox m (subN 18446744073709551616 X Y k) ∧ Chg gx w wr
theorem Lim.digs {w : World} {g o n X X' j v : Nat} (h : Lim (w.setCell ⟨g, o + j, none⟩ (lvn v)) g o n (updN 18446744073709551616 X j v)) (hj : j < n) (hv : v < 18446744073709551616) (he : (digs 18446744073709551616 n X).set j v = digs 18446744073709551616 n X') : Lim (w.setCell ⟨g, o + j, none⟩ (lvn v)) g o n X' := by
  obtain ⟨cs, h1, h2⟩ := h
  refine ⟨cs, h1, fun i hi => ?_⟩
  rw [h2 i hi]
  rw [updN_digs (by omega) hj hv] at he
  have := congrArg (fun l => l[i]?) he
  simp only [digs64_get _ _ _ hi] at this
  injection this with this
  rw [this]
set_option maxRecDepth 100000 in
set_option maxHeartbeats 2000000 in
theorem minus_any (w : World) (gx ox cx gy oy cy m n X Y : Nat) (hne : gy ≠ gx) (hnm : n ≤ m) (hm : m ≤ 17592186044416) (hcx : m ≤ cx) (hX : Lim w gx ox m X) (hY : Lim w gy oy n Y) (hXl : X < 18446744073709551616 ^ m) (hYl : Y < 18446744073709551616 ^ n) (hle : Y ≤ X) :
    Calls Tryd.prog 120 #[.slice (some ⟨gx, ox, none⟩) m cx, .slice (some ⟨gy, oy, none⟩) n cy] w fun e w' => e = .returned (.slice (some ⟨gx, ox, none⟩) (llen (X - Y)) cx) ∧ Lim w' gx ox (llen (X - Y)) (X - Y) ∧ Chg gx w w' := by
  have Hy := Lib.hid (show ∀ k, k < n → ∀ wr, Chg gx w wr → wr.cell? ⟨gy, oy + k, none⟩ = some (.int .u64 ((Y / 18446744073709551616 ^ k % 18446744073709551616 : Nat) : Int)) from fun k hk wr hb => (hb.cell hY.lt hne).trans (hY.cell hk))
  have HYl := Lib.hid hYl
  have hlt : X - Y < 18446744073709551616 ^ m := by omega
  have Hend := Lib.hid (subN_end (B := 18446744073709551616) (by omega) hXl (Nat.lt_of_lt_of_le hYl (Nat.pow_le_pow_right (by omega) hnm)) hle)
  have Hlt := Lib.hid hlt
  have Hll := Lib.hid (show llen (X - Y) ≤ m from (llen_le _ _).mpr hlt)
  have Hst := Lib.hid (show MinRel w gx ox m X Y (.int .u64 0) (.int .i64 0) w from ⟨0, Nat.zero_le _, rfl, by rw [subB_zero]; rfl, by rw [subN_zero]; exact hX, Chg.refl _ _⟩)
  clear hX hY hYl hlt hXl hle
  go_enter Tryd.func120, Tryd.ntmps120
  go_wp2
  go_loopw [5, 10] (fun c i wr => MinRel w gx ox m X Y c i wr) (fun _ i _ => m - (intOf i).toNat)
  case atStart => exact Hst.out
  case round =>
    obtain ⟨k, hk, rfl, rfl, hB, hb3⟩ := hrel
    by_cases hlt : k < m
    · obtain ⟨x, hx⟩ : ∃ x, x = X / 18446744073709551616 ^ k % 18446744073709551616 := ⟨_, rfl⟩
      obtain ⟨y, hy⟩ : ∃ y, y = Y / 18446744073709551616 ^ k % 18446744073709551616 := ⟨_, rfl⟩
      obtain ⟨c, hc⟩ : ∃ c, c = subB 18446744073709551616 X Y k := ⟨_, rfl⟩
      have hxl : x < 18446744073709551616 := by rw [hx]; exact Nat.mod_lt _ (by omega)
      have hyl : y < 18446744073709551616 := by rw [hy]; exact Nat.mod_lt _ (by omega)
      have hcl : c ≤ 1 := by rw [hc]; exact subB_le _ X Y k
      have hck := hB.cell hlt
      rw [subN_dig (by omega), ← hx] at hck
      have hset := subN_digs (B := 18446744073709551616) (by omega) X Y k m hlt
      have hcar := subB_succ (B := 18446744073709551616) (by omega) X Y k
      rw [← hx, ← hy, ← hc] at hset hcar
      have hfz := hB.free (ox + k)
      have hst := (hB.set (j := k) (v := (x + 18446744073709551616 - y - c) % 18446744073709551616) (Nat.mod_lt _ (by omega)) hlt).digs hlt (Nat.mod_lt _ (by omega)) hset
      obtain ⟨z, hz⟩ : ∃ z, z = (x + 18446744073709551616 - y - c) % 18446744073709551616 := ⟨_, rfl⟩
      have hzl : z < 18446744073709551616 := by rw [hz]; exact Nat.mod_lt _ (by omega)
      obtain ⟨cb, hcb⟩ : ∃ cb, cb = (if x < y + c then 1 else 0) := ⟨_, rfl⟩
      have hrun := fun w => sub64_run x y c hcl w
      rw [← hz, ← hcb] at hrun
      rw [← hz, show lvn z = Value.int .u64 (z : Int) from rfl] at hst
      rw [← hcb] at hcar
      have HP := Lib.hid (show MinRel w gx ox m X Y (.int .u64 (cb : Int)) (.int .i64 ((k : Int) + 1)) (wr.setCell ⟨gx, ox + k, none⟩ (.int .u64 (z : Int))) from ⟨k + 1, by omega, by go_num, by rw [hcar], hst, hb3.set _ _⟩)
      rw [← hc]
      by_cases hky : k < n
      · have hcy := Hy.out k hky wr hb3
        rw [← hy] at hcy
        clear hx hy hc hset hst hB hcar hz hcb
        go_wp2_with (simp only [hrun])
        go_roundw
        case rel => exact HP.out
        case measure => simp [intOf]; omega
      · have hy0 : y = 0 := by
          rw [hy, Nat.div_eq_of_lt (Nat.lt_of_lt_of_le HYl.out (Nat.pow_le_pow_right (by omega) (by omega)))]
        rw [hy0] at hrun
        have hz0 : ((0 : Nat) : Int) = 0 := rfl
        rw [hz0] at hrun
        clear hx hy hc hset hst hB hcar hz hcb hy0 hyl hz0
        go_wp2_with (simp only [hrun])
        go_roundw
        case rel => exact HP.out
        case measure => simp [intOf]; omega
    · obtain rfl : k = m := by omega
      rw [Hend.out] at hB
      have HC := Lib.hid (cut_any wr gx ox k cx (X - Y) hB Hlt.out hcx hm)
      have HB := Lib.hid hB
      obtain ⟨r, hr⟩ : ∃ r, r = llen (X - Y) := ⟨_, rfl⟩
      rw [← hr] at HC
      have Hr := Lib.hid hr
      clear hB hr
      go_wp2_with fail
      refine HC.out.mono ?_
      rintro e w' ⟨rfl, q, rfl⟩
      go_wp2
      go_ret
      exact ⟨by rw [← Hr.out]; rfl, (HB.out.take Hll.out).drewN q, ⟨⟨hb3.1.os, hb3.1.tape, hb3.1.output, hb3.1.size, hb3.1.block⟩, hb3.2⟩⟩
def RightRel (w : World) (g o n X r : Nat) (i : Value) (wr : World) : Prop := ∃ k : Nat, k ≤ n ∧ i = .int .i64 k ∧ Lim wr g o n (shrN 18446744073709551616 X (2 ^ r) k) ∧ Chg g w wr
def RightPost (w : World) (g Z : Nat) (e : Ending) (w' : World) : Prop := ∃ o c, e = .returned (.slice (some ⟨g, o, none⟩) (llen Z) c) ∧ llen Z ≤ c ∧ Lim w' g o (llen Z) Z ∧ Chg g w w'
theorem Chg.drewN {g : Nat} {w w' : World} (h : Chg g w w') (q : Nat) : Chg g w (w'.drewN q) := ⟨⟨h.1.os, h.1.tape, h.1.output, h.1.size, h.1.block⟩, h.2⟩
set_option maxRecDepth 100000 in
set_option maxHeartbeats 2000000 in
theorem right_any (w : World) (g o n c X b : Nat) (hL : Lim w g o n X) (hX : X < 18446744073709551616 ^ n) (hc : n ≤ c) (hn : n ≤ 17592186044416) (hb : 2 ^ b ≤ X) :
    Calls Tryd.prog 118 #[.slice (some ⟨g, o, none⟩) n c, .int .i64 b] w (RightPost w g (X / 2 ^ b)) := by
  obtain ⟨k, hk⟩ : ∃ k, k = b / 64 := ⟨_, rfl⟩
  obtain ⟨r, hr⟩ : ∃ r, r = b % 64 := ⟨_, rfl⟩
  have hbk : b = 64 * k + r := by omega
  have hkn : k < n := by
    have h1 : 2 ^ b < 2 ^ (64 * n) := by
      rw [Nat.pow_mul]
      exact Nat.lt_of_le_of_lt hb hX
    have h2 := (Nat.pow_lt_pow_iff_right (show 1 < 2 by omega)).mp h1
    omega
  have hZ : X / 18446744073709551616 ^ k / 2 ^ r = X / 2 ^ b := by
    rw [Nat.div_div_eq_div_mul, hbk, Nat.pow_add, Nat.pow_mul]
  obtain ⟨X1, hX1⟩ : ∃ X1, X1 = X / 18446744073709551616 ^ k := ⟨_, rfl⟩
  have hX1l : X1 < 18446744073709551616 ^ (n - k) := by
    rw [hX1, Nat.div_lt_iff_lt_mul (Nat.pow_pos (by omega)), ← Nat.pow_add, show n - k + k = n by omega]
    exact hX
  have hL1 := hL.sub k (by omega)
  rw [← hX1] at hL1 hZ
  rw [← hZ]
  have hki : (b : Int) / 64 = (k : Int) := by omega
  have hri : (b : Int) % 64 = (r : Int) := by omega
  have hrt : (b : Int).tmod 64 = (r : Int) := by rw [Int.tmod_eq_emod_of_nonneg (by omega)]; omega
  have hr64 : r < 64 := by omega
  obtain ⟨n1, hn1⟩ : ∃ n1, n1 = n - k := ⟨_, rfl⟩
  obtain ⟨o1, ho1⟩ : ∃ o1, o1 = o + k := ⟨_, rfl⟩
  obtain ⟨c1, hc1⟩ : ∃ c1, c1 = c - k := ⟨_, rfl⟩
  rw [← hn1] at hX1l hL1
  rw [← ho1] at hL1
  have hn1c : n1 ≤ c1 := by omega
  have hn1l : n1 ≤ 17592186044416 := by omega
  have hkc : k < c := by omega
  have HX1 := Lib.hid hX1l
  have HL1 := Lib.hid hL1
  have Hn1 := Lib.hid hn1
  have Ho1 := Lib.hid ho1
  have Hc1 := Lib.hid hc1
  clear hL hX hb hk hr hbk hZ hX1 hX1l hL1 hn1 ho1 hc1
  have hr0 : (0 < r) ∨ r = 0 := by omega
  have hn1' : n - k = n1 := Hn1.out.symm
  have ho1' : o + k = o1 := Ho1.out.symm
  have hc1' : c - k = c1 := Hc1.out.symm
  rcases hr0 with hr0 | hr0
  · have hr0i : (0 : Int) < (r : Int) := by omega
    have Hst := Lib.hid (show RightRel w g o1 n1 X1 r (.int .i64 0) w from ⟨0, Nat.zero_le _, rfl, by rw [shrN_zero]; exact HL1.out, Chg.refl _ _⟩)
    go_enter Tryd.func118, Tryd.ntmps118
    go_wp2
    go_loopw [16] (fun i wr => RightRel w g o1 n1 X1 r i wr) (fun i _ => n1 - (intOf i).toNat)
    case atStart => exact Hst.out
    case round =>
      obtain ⟨i, hi, rfl, hB, hch⟩ := hrel
      by_cases hlt : i < n1
      · obtain ⟨x, hx⟩ : ∃ x, x = X1 / 18446744073709551616 ^ i % 18446744073709551616 := ⟨_, rfl⟩
        have hxl : x < 18446744073709551616 := by rw [hx]; exact Nat.mod_lt _ (by omega)
        have hcx := hB.cell hlt
        rw [shrN_dig (by omega), ← hx] at hcx
        have hfx := hB.free (o1 + i)
        obtain ⟨x1, hx1⟩ : ∃ x1, x1 = x / 2 ^ r := ⟨_, rfl⟩
        have hx1i : (x : Int) / 2 ^ r = (x1 : Int) := by rw [hx1]; simp
        have hx1B : x1 < 18446744073709551616 := by rw [hx1]; exact Nat.lt_of_le_of_lt (Nat.div_le_self _ _) hxl
        have hdig := shr64 (U := X1) (i := i) hr64
        rw [← hx, ← hx1] at hdig
        have hset := shrN_digs (B := 18446744073709551616) (U := X1) (p := 2 ^ r) (i := i) (m := n1) (by omega) hlt
        by_cases hi1 : i + 1 < n1
        · obtain ⟨y, hy⟩ : ∃ y, y = X1 / 18446744073709551616 ^ (i + 1) % 18446744073709551616 := ⟨_, rfl⟩
          have hyl : y < 18446744073709551616 := by rw [hy]; exact Nat.mod_lt _ (by omega)
          have hcy := hB.cell hi1
          rw [shrN_next (by omega), ← hy] at hcy
          rw [← hy] at hdig
          obtain ⟨q, hq⟩ : ∃ q, q = 64 - r := ⟨_, rfl⟩
          have hqi : (64 : Int) - (r : Int) = (q : Int) := by omega
          have hql : q < 64 := by omega
          rw [← hq] at hdig
          obtain ⟨z, hz⟩ : ∃ z, z = y * 2 ^ q % 18446744073709551616 := ⟨_, rfl⟩
          have hzl : z < 18446744073709551616 := by rw [hz]; exact Nat.mod_lt _ (by omega)
          rw [← hz] at hdig
          have hx1l : x1 < 2 ^ q := by
            rw [hx1, Nat.div_lt_iff_lt_mul (Nat.pow_pos (by omega)), ← Nat.pow_add, show q + r = 64 by omega]
            exact hxl
          have hzc : z = 2 ^ q * (y % 2 ^ r) := by
            rw [hz, Nat.mul_comm, show (18446744073709551616 : Nat) = 2 ^ q * 2 ^ r by rw [← Nat.pow_add, show q + r = 64 by omega], Nat.mul_mod_mul_left]
          have hor : bits .or .u64 (x1 : Int) (z : Int) = ((x1 + z : Nat) : Int) := by
            rw [u64_or x1 z hx1B hzl]
            congr 1
            rw [Nat.or_comm, hzc, or_add _ _ _ hx1l]
            omega
          have hxz : x1 + z < 18446744073709551616 := by rw [← hdig]; exact Nat.mod_lt _ (by omega)
          have w1 : IntKind.u64.wrap ((y : Int) * 2 ^ q) = (z : Int) := by
            rw [IntKind.wrap_u64, hz]
            simp
          have w4 : IntKind.i64.wrap (q : Int) = q := by rw [IntKind.wrap_i64]; omega
          obtain ⟨i2, hi2⟩ : ∃ i2, i2 = i + 1 := ⟨_, rfl⟩
          have w5 : IntKind.i64.wrap (i2 : Int) = (i2 : Int) := by rw [IntKind.wrap_i64]; omega
          have w6 : (i : Int) + 1 = (i2 : Int) := by omega
          have w7 : i2 < n1 := by omega
          have w7' : (i2 : Int) < (n1 : Int) := by omega
          rw [hdig] at hset
          rw [← hi2] at hcy
          have hB8 := hB.set (j := i) (v := x1) hx1B hlt
          rw [show lvn x1 = Value.int .u64 (x1 : Int) from rfl] at hB8
          have hch8 := hch.set (o1 + i) (.int .u64 (x1 : Int))
          have Hset := Lib.hid hset
          have HB8 := Lib.hid hB8
          have Hch8 := Lib.hid hch8
          have hcy8 : (wr.setCell ⟨g, o1 + i, none⟩ (.int .u64 (x1 : Int))).cell? ⟨g, o1 + i2, none⟩ = some (.int .u64 (y : Int)) := by
            exact (World.cell?_setCell_other (w := wr) (v := .int .u64 (x1 : Int)) (a := ⟨g, o1 + i, none⟩) (b := ⟨g, o1 + i2, none⟩) (h := by rw [hi2]; simp)).trans hcy
          have hcx8 := World.cell?_setCell_same (w := wr) (v := .int .u64 (x1 : Int)) (h := hcx)
          have hfx8 := hB8.free (o1 + i)
          have hxz2 : ((x1 + z : Nat) : Int) = (x1 : Int) + (z : Int) := by omega
          rw [hxz2] at hor
          have Hi2 := Lib.hid hi2
          clear hi2 hB hch hx hx1 hdig hset hz hzc hq hy hB8 hch8 hxz2 hx1l
          go_upto_region 9 with (fail)
          generalize wr.setCell ⟨g, o1 + i, none⟩ (.int .u64 (x1 : Int)) = w8 at hcy8 hcx8 hfx8 HB8 Hch8 ⊢
          clear hcx hfx hcy
          have hch9 : Chg g w w8.drew := Hch8.out.drew
          have hB9 : Lim w8.drew g o1 n1 (updN 18446744073709551616 (shrN 18446744073709551616 X1 (2 ^ r) i) i x1) := HB8.out.drew
          have hcx9 : w8.drew.cell? ⟨g, o1 + i, none⟩ = some (.int .u64 (x1 : Int)) := hcx8
          have hfx9 : w8.drew.frozen? ⟨g, o1 + i, none⟩ = false := hfx8
          go_still_tail 14, (by kernel_rfl)
          change wpList _ _ _ _ _ w8.drew
          generalize w8.drew = w9 at hch9 hB9 hcx9 hfx9 ⊢
          have hst := (hB9.set (j := i) (v := x1 + z) hxz hlt).digs hlt hxz (X' := shrN 18446744073709551616 X1 (2 ^ r) (i + 1)) (by rw [← updN_digs (by omega) hlt hx1B, List.set_set, Hset.out])
          rw [show lvn (x1 + z) = Value.int .u64 ((x1 : Int) + (z : Int)) by unfold lvn; congr 1] at hst
          have HP := Lib.hid (show RightRel w g o1 n1 X1 r (.int .i64 (i2 : Int)) (w9.setCell ⟨g, o1 + i, none⟩ (.int .u64 ((x1 : Int) + (z : Int)))) from ⟨i + 1, by omega, by rw [Hi2.out], hst, hch9.set _ _⟩)
          clear hB9 hch9 hst hcx8 hfx8 hcy8 HB8 Hch8
          go_wp2
          go_roundw
          case rel => exact HP.out
          case measure => have := Hi2.out; simp [intOf]; omega
        · have hz : X1 / 18446744073709551616 ^ (i + 1) = 0 := by
            rw [show i + 1 = n1 by omega]
            exact Nat.div_eq_of_lt HX1.out
          rw [hz] at hdig
          simp only [Nat.zero_mod, Nat.zero_mul, Nat.add_zero] at hdig
          rw [hdig] at hset
          have hst := (hB.set (j := i) (v := x1) hx1B hlt).digs hlt hx1B hset
          rw [show lvn x1 = Value.int .u64 (x1 : Int) from rfl] at hst
          have HP := Lib.hid (show RightRel w g o1 n1 X1 r (.int .i64 ((i : Int) + 1)) (wr.setCell ⟨g, o1 + i, none⟩ (.int .u64 (x1 : Int))) from ⟨i + 1, by omega, by go_num, hst, hch.set _ _⟩)
          have hk1i : ¬ (i : Int) + 1 < (n1 : Int) := by omega
          clear hB hch hx hx1 hdig hset hz hst
          go_wp2
          go_roundw
          case rel => exact HP.out
          case measure => simp [intOf]; omega
      · obtain rfl : i = n1 := by omega
        rw [shrN_end HX1.out] at hB
        have hZl : X1 / 2 ^ r < 18446744073709551616 ^ i := Nat.lt_of_le_of_lt (Nat.div_le_self _ _) HX1.out
        have HC := Lib.hid (cut_any wr g o1 i c1 (X1 / 2 ^ r) hB hZl hn1c hn1l)
        have HP := Lib.hid (show ∀ q, RightPost w g (X1 / 2 ^ r) (.returned (.slice (some ⟨g, o1, none⟩) (llen (X1 / 2 ^ r)) c1)) (wr.drewN q) from fun q => ⟨o1, c1, rfl, Nat.le_trans ((llen_le _ _).mpr hZl) hn1c, (hB.take ((llen_le _ _).mpr hZl)).drewN q, hch.drewN q⟩)
        obtain ⟨l, hl⟩ : ∃ l, l = llen (X1 / 2 ^ r) := ⟨_, rfl⟩
        rw [← hl] at HC HP
        clear hB hch hZl hl
        go_wp2_with fail
        refine HC.out.mono ?_
        rintro e w' ⟨rfl, q, rfl⟩
        go_wp2
        go_ret
        exact HP.out q
  · subst hr0
    have hZ0 : X1 / 2 ^ 0 = X1 := by rw [Nat.pow_zero, Nat.div_one]
    rw [hZ0]
    have HC := Lib.hid (cut_any w g o1 n1 c1 X1 HL1.out HX1.out hn1c hn1l)
    have HP := Lib.hid (show ∀ q, RightPost w g X1 (.returned (.slice (some ⟨g, o1, none⟩) (llen X1) c1)) (w.drewN q) from fun q => ⟨o1, c1, rfl, Nat.le_trans ((llen_le _ _).mpr HX1.out) hn1c, (HL1.out.take ((llen_le _ _).mpr HX1.out)).drewN q, (Chg.refl _ _).drewN q⟩)
    obtain ⟨l, hl⟩ : ∃ l, l = llen X1 := ⟨_, rfl⟩
    rw [← hl] at HC HP
    clear hl hZ0
    go_enter Tryd.func118, Tryd.ntmps118
    go_wp2_with fail
    refine HC.out.mono ?_
    rintro e w' ⟨rfl, q, rfl⟩
    go_wp2
    go_ret
    exact HP.out q
end Go.Proofs.YthmgcbpmfipfiaaDoor
