/- nat.long: long division. Conditions: those typed. -/
import Derived.Test.YthmgcbpmfipfiaaDoorNatG
import Derived.Test.YthmgcbpmfipfiaaDoorNatLong2
import Derived.Deep.RegionWith
import Derived.Deep.DeepCutAuto
import Derived.Deep.CutBlock
namespace Go.Proofs.YthmgcbpmfipfiaaDoor
open Go.RowKit Go.Gy
set_option linter.unusedVariables false
theorem bitLenAux_lt : ∀ (f x : Nat), x < 2 ^ f → x < 2 ^ Lib.bitLenAux f x ∧ Lib.bitLenAux f x ≤ f ∧ (x ≠ 0 → 1 ≤ Lib.bitLenAux f x)
  | 0, x, h => by
    have : x = 0 := by simpa using h
    subst this
    exact ⟨by simp [Lib.bitLenAux], by simp [Lib.bitLenAux], fun h => absurd rfl h⟩
  | f + 1, x, h => by
    unfold Lib.bitLenAux
    by_cases hx : x = 0
    · subst hx; simp
    · rw [if_neg hx]
      obtain ⟨h1, h2, _⟩ := bitLenAux_lt f (x / 2) (by rw [Nat.pow_succ] at h; omega)
      refine ⟨?_, by omega, fun _ => by omega⟩
      rw [Nat.add_comm, Nat.pow_succ]
      omega
theorem bitLen_lt (x : Nat) (h : x < 4294967296) : x < 2 ^ Lib.bitLen x ∧ Lib.bitLen x ≤ 32 ∧ (x ≠ 0 → 1 ≤ Lib.bitLen x) := by
  have e : Lib.bitLen x = Lib.bitLenAux 32 x := Lib.bitLenAux_fuel 32 x (by omega) 64 (by omega)
  rw [e]
  exact bitLenAux_lt 32 x (by omega)
/-- what is shifted fits -/
theorem shift_fits {Y n b : Nat} (hn : 1 ≤ n) (hY : Y < 4294967296 ^ n) (hb : Y / 4294967296 ^ (n - 1) < 2 ^ b) (hb2 : b ≤ 32) : Y * 2 ^ (32 - b) < 4294967296 ^ n := by
  have h1 : Y < 2 ^ b * 4294967296 ^ (n - 1) := by rwa [← Nat.div_lt_iff_lt_mul (Nat.pow_pos (by omega))]
  have h2 : Y * 2 ^ (32 - b) < 2 ^ b * 4294967296 ^ (n - 1) * 2 ^ (32 - b) := Nat.mul_lt_mul_of_pos_right h1 (Nat.pow_pos (by omega))
  have h3 : 2 ^ b * 4294967296 ^ (n - 1) * 2 ^ (32 - b) = 4294967296 ^ n := by
    obtain ⟨m, rfl⟩ : ∃ m, n = m + 1 := ⟨n - 1, by omega⟩
    rw [Nat.add_sub_cancel, Nat.pow_succ, Nat.mul_right_comm, ← Nat.pow_add, show b + (32 - b) = 32 by omega, Nat.mul_comm]
  omega
def LeftP (m N : Nat) (w : World) (e : Ending) (w' : World) : Prop := ∃ g, e = .returned (.slice (some ⟨g, 0, none⟩) (m + 1) (m + 1)) ∧ w.heap.size ≤ g ∧ Blk w' g 137 ((digs 4294967296 (m + 1) N).map wvn).toArray ∧ Below w.heap.size w w'
def LongCut (w : World) (m n U V : Nat) (u v : Value) (wx : World) : Prop := ∃ gu gv, u = .slice (some ⟨gu, 0, none⟩) (m + 1) (m + 1) ∧ v = .slice (some ⟨gv, 0, none⟩) n (n + 1) ∧ gu ≠ gv ∧ w.heap.size ≤ gu ∧ w.heap.size ≤ gv ∧ Blk wx gu 137 ((digs 4294967296 (m + 1) U).map wvn).toArray ∧ Blk wx gv 137 ((digs 4294967296 (n + 1) V).map wvn).toArray ∧ Below w.heap.size w wx
def LongRel (w : World) (gu gv gq m n lq U0 V : Nat) (i : Value) (wr : World) : Prop := ∃ K U Q : Nat, K ≤ lq ∧ ((K = 0 ∧ i = .int .i64 (-1)) ∨ ∃ k : Nat, K = k + 1 ∧ i = .int .i64 k) ∧ Hid (U + V * Q = U0) ∧ Hid (U < V * 4294967296 ^ K) ∧ Hid (Q % 4294967296 ^ K = 0) ∧ Blk wr gu 137 ((digs 4294967296 (m + 1) U).map wvn).toArray ∧ Blk wr gv 137 ((digs 4294967296 (n + 1) V).map wvn).toArray ∧ Blk wr gq 137 ((digs 4294967296 lq Q).map wvn).toArray ∧ Below w.heap.size w wr
theorem LongRel.start {w wc : World} {gu gv m n lq U0 V : Nat} (h1 : 1 ≤ lq) (hu : U0 < V * 4294967296 ^ lq) (hB : Blk wc gu 137 ((digs 4294967296 (m + 1) U0).map wvn).toArray) (hV : Blk wc gv 137 ((digs 4294967296 (n + 1) V).map wvn).toArray) (hb : Below w.heap.size w wc) :
    LongRel w gu gv wc.heap.size m n lq U0 V (.int .i64 ((lq : Int) - 1)) (wc.alloc (.cells (Array.replicate lq (wvn 0)) 137)) := by
  refine ⟨lq, U0, 0, Nat.le_refl _, .inr ⟨lq - 1, by omega, by congr 1; omega⟩, Lib.hid (by omega), Lib.hid hu, Lib.hid (Nat.zero_mod _), hB.alloc _, hV.alloc _, ?_, hb.alloc hb.size _⟩
  rw [digs_zero]
  have := Blk.new wc 137 ((List.replicate lq 0).map wvn).toArray
  simpa using this
theorem LongRel.step {w wr : World} {gu gv gq m n lq U0 U V Q W d i : Nat} (h1 : i ≤ lq) (hl : W / V < 4294967296 ∧ U % 4294967296 ^ i + 4294967296 ^ i * (W % V) + V * (Q + 4294967296 ^ i * (W / V)) = U0 ∧ U % 4294967296 ^ i + 4294967296 ^ i * (W % V) < V * 4294967296 ^ i ∧ (Q + 4294967296 ^ i * (W / V)) % 4294967296 ^ i = 0 ∧ Q / 4294967296 ^ i % 4294967296 = 0) (hd : d = W / V)
    (hB : Blk wr gu 137 ((digs 4294967296 (m + 1) (winU 4294967296 U i (W % V))).map wvn).toArray) (hV : Blk wr gv 137 ((digs 4294967296 (n + 1) V).map wvn).toArray) (hq : Blk wr gq 137 ((digs 4294967296 lq (Q + 4294967296 ^ i * d)).map wvn).toArray) (hb : Below w.heap.size w wr) :
    LongRel w gu gv gq m n lq U0 V (.int .i64 ((i : Int) - 1)) wr := by
  subst hd
  refine ⟨i, _, _, h1, ?_, Lib.hid hl.2.1, Lib.hid hl.2.2.1, Lib.hid hl.2.2.2.1, hB, hV, hq, hb⟩
  rcases Nat.eq_zero_or_pos i with h | h
  · subst h; exact .inl ⟨rfl, rfl⟩
  · exact .inr ⟨i - 1, by omega, by congr 1; omega⟩
def ShrRel (w : World) (gu gq m n lq b U R : Nat) (i : Value) (wr : World) : Prop := ∃ k : Nat, k ≤ n ∧ i = .int .i64 k ∧ Blk wr gu 137 ((digs 4294967296 (m + 1) (shrN 4294967296 U (2 ^ b) k)).map wvn).toArray ∧ Blk wr gq 137 ((digs 4294967296 lq R).map wvn).toArray ∧ Below w.heap.size w wr
theorem shr32 {U b i : Nat} (hb : b < 32) : U / 2 ^ b / 4294967296 ^ i % 4294967296 = U / 4294967296 ^ i % 4294967296 / 2 ^ b + U / 4294967296 ^ (i + 1) % 4294967296 * 2 ^ (32 - b) % 4294967296 := by
  have h := shr_dig (p := 2 ^ b) (q := 2 ^ (32 - b)) (U := U) (i := i) (Nat.pow_pos (by omega)) (Nat.pow_pos (by omega))
  rwa [← Nat.pow_add, show b + (32 - b) = 32 by omega] at h
theorem u64_pair (x y : Nat) (hx : x < 4294967296) (hy : y < 4294967296) : bits .or .u64 ((x : Int) * 4294967296) (y : Int) = ((x * 4294967296 + y : Nat) : Int) := by
  have h := u64_or (x * 4294967296) y (by omega) (by omega)
  have e : ((x * 4294967296 : Nat) : Int) = (x : Int) * 4294967296 := by omega
  rw [e] at h
  rw [h]
  congr 1
  have := or_add x 32 y hy
  rw [Nat.mul_comm x]
  exact this
def LongPost (w : World) (m n X Y : Nat) (e : Ending) (w' : World) : Prop := ∃ gq gr c, e = .returned (.tuple #[.slice (some ⟨gq, 0, none⟩) (m + 1 - n) (m + 1 - n), .slice (some ⟨gr, 0, none⟩) n c]) ∧ Blk w' gq 137 ((digs 4294967296 (m + 1 - n) (X / Y)).map wvn).toArray ∧ Blk w' gr 137 ((digs 4294967296 (m + 1) (X % Y)).map wvn).toArray ∧ Below w.heap.size w w'
set_option maxRecDepth 100000 in
set_option maxHeartbeats 8000000 in
theorem long_any (w : World) (gx gy m n X Y : Nat) (hn : 2 ≤ n) (hnm : n ≤ m) (hm : m ≤ 2199023255552) (hX : Blk w gx 137 ((digs 4294967296 m X).map wvn).toArray) (hY : Blk w gy 137 ((digs 4294967296 n Y).map wvn).toArray)
    (hXl : X < 4294967296 ^ m) (hYl : Y < 4294967296 ^ n) (hYt : 4294967296 ^ (n - 1) ≤ Y) (hne : gx ≠ gy) :
    Calls Tryd.prog 111 #[.slice (some ⟨gx, 0, none⟩) m m, .slice (some ⟨gy, 0, none⟩) n n] w (LongPost w m n X Y) := by
  obtain ⟨v, hv⟩ : ∃ v, v = Y / 4294967296 ^ (n - 1) := ⟨_, rfl⟩
  have hvl : v < 4294967296 := by
    rw [hv, Nat.div_lt_iff_lt_mul (Nat.pow_pos (by omega)), Nat.mul_comm, ← Nat.pow_succ, show (n - 1).succ = n by omega]
    exact hYl
  have hv0 : v ≠ 0 := by
    rw [hv]
    have := Nat.div_pos hYt (Nat.pow_pos (by omega))
    omega
  have hcy := blk_dig hY (k := n - 1) (by omega)
  rw [← hv, Nat.mod_eq_of_lt hvl] at hcy
  obtain ⟨hb1, hb2, hb3⟩ := bitLen_lt v hvl
  obtain ⟨b, hb⟩ : ∃ b, b = 32 - Lib.bitLen v := ⟨_, rfl⟩
  have hb4 := hb3 hv0
  have hbl : b < 32 := by omega
  have HZ := Lib.hid (show Calls Tryd.prog 121 #[.int .u32 (v : Int)] w fun e w' => e = .returned (.int .i64 (b : Int)) ∧ w = w' from (Tryd.bits_LeadingZeros32 v w (by omega) (by omega)).mono fun e w' ⟨h1, h2⟩ => ⟨by rw [h1]; exact ret_int (by rw [Int.toNat_natCast]; omega), h2.symm⟩)
  have HV := Lib.hid (show Y * 2 ^ b < 4294967296 ^ n by rw [hb]; exact shift_fits (by omega) hYl (by rw [← hv]; exact hb1) hb2)
  have HX := Lib.hid (show ∀ w', Below w.heap.size w w' → Calls Tryd.prog 122 #[.slice (some ⟨gx, 0, none⟩) m m, .int .i64 b] w' (LeftP m (X * 2 ^ b) w') from fun w' hbw => (left_any w' gx m X b (by omega) hbl (hX.below hbw hX.lt) hXl).mono fun e w'' ⟨h1, h2, h3⟩ => ⟨_, h1, Nat.le_refl _, h2, h3⟩)
  have HY := Lib.hid (show ∀ w', Below w.heap.size w w' → Calls Tryd.prog 122 #[.slice (some ⟨gy, 0, none⟩) n n, .int .i64 b] w' (LeftP n (Y * 2 ^ b) w') from fun w' hbw => (left_any w' gy n Y b (by omega) hbl (hY.below hbw hY.lt) hYl).mono fun e w'' ⟨h1, h2, h3⟩ => ⟨_, h1, Nat.le_refl _, h2, h3⟩)
  have HXl := Lib.hid hXl
  have HYt := Lib.hid hYt
  have hn1 : ((n : Int) - 1) = ((n - 1 : Nat) : Int) := by omega
  have hn1l : n - 1 < n := by omega
  obtain ⟨n1, hn1e⟩ : ∃ n1, n1 = n - 1 := ⟨_, rfl⟩
  rw [← hn1e] at hn1 hn1l hcy
  have Hne := Lib.hid hne
  have Hn1 := Lib.hid hn1e
  clear hX hY hXl hYl hYt hv hb hb1 hb2 hb3 hb4 hv0 hne hn1e
  go_enter Tryd.func111, Tryd.ntmps111
  go_wp2_with fail
  refine HZ.out.mono ?_
  rintro e w' ⟨rfl, rfl⟩
  go_upto_region 3 with (fail)
  go_cut [8, 9] (fun u v wx => LongCut w m n (X * 2 ^ b) (Y * 2 ^ b) u v wx)
  case first =>
    go_region_with (first
      | (go_at_call_of 122 (Value.slice (some ⟨gx, 0, none⟩) m m); refine (HX.out _ ?_).mono ?_; (first | exact (Below.refl _ _).drew | exact hbx); rintro e wa ⟨g1, rfl, hg1, hB1, hba⟩; (first | (have hbx := hbx.trans (hba.mono hbx.size)) | (have hbx : Below w.heap.size w wa := (Below.refl _ _).drew.trans hba)))
      | (go_at_call_of 122 (Value.slice (some ⟨gy, 0, none⟩) n n); refine (HY.out _ ?_).mono ?_; (first | exact (Below.refl _ _).drew | exact hbx); rintro e wb ⟨g2, rfl, hg2, hB2, hbb⟩; (first | (have hbx := hbx.trans (hbb.mono hbx.size)) | (have hbx : Below w.heap.size w wb := (Below.refl _ _).drew.trans hbb))))
    go_wp2_with fail
    go_meet
    have hg1l := hB1.lt
    exact ⟨g1, g2, rfl, rfl, by omega, hg1, by have := hba.size; simp at this; omega, hB1.below hbb hg1l, hB2, hbx⟩
  case rest =>
    obtain ⟨gu, gv, rfl, rfl, hguv, hgu, hgv, hBu, hBv, hbw⟩ := hcut
    have hp0 : 0 < 2 ^ b := Nat.pow_pos (by omega)
    obtain ⟨V, hV⟩ : ∃ V, V = Y * 2 ^ b := ⟨_, rfl⟩
    obtain ⟨U0, hU0⟩ : ∃ U0, U0 = X * 2 ^ b := ⟨_, rfl⟩
    have hVl := HV.out
    have hVt : 4294967296 ^ (n - 1) ≤ V := by rw [hV]; exact Nat.le_trans HYt.out (Nat.le_mul_of_pos_right Y hp0)
    have hUV : U0 < V * 4294967296 ^ (m + 1 - n) := by
      rw [hU0, hV, Nat.mul_right_comm]
      refine Nat.mul_lt_mul_of_pos_right (Nat.lt_of_lt_of_le HXl.out ?_) hp0
      have e : (4294967296 : Nat) ^ m = 4294967296 ^ (n - 1) * 4294967296 ^ (m + 1 - n) := by rw [← Nat.pow_add]; congr 1; omega
      rw [e]
      exact Nat.mul_le_mul_right _ HYt.out
    have Hdiv := Lib.hid (show U0 / V = X / Y by rw [hU0, hV, Nat.mul_div_mul_right _ _ hp0])
    have Hmod := Lib.hid (show U0 % V = X % Y * 2 ^ b by rw [hU0, hV, Nat.mul_mod_mul_right])
    rw [← hV] at hVl hBv
    rw [← hU0] at hBu
    have hVpos : 0 < V := Nat.lt_of_lt_of_le (Nat.pow_pos (by omega)) hVt
    obtain ⟨lq, hlq⟩ : ∃ lq, lq = m + 1 - n := ⟨_, rfl⟩
    have hlqi : (m : Int) + 1 - (n : Int) = (lq : Int) := by omega
    rw [← hlq] at hUV
    have hmk := make_u32 lq (by omega) wc
    have HVl := Lib.hid hVl
    have HVt := Lib.hid hVt
    have HUV := Lib.hid hUV
    have Hlq := Lib.hid hlq
    have HBu := Lib.hid hBu
    have HBv := Lib.hid hBv
    have Hbw := Lib.hid hbw
    clear hV hU0 hVl hVt hUV hlq hBu hBv hbw HX HY HZ HV HXl hcy hp0
    have hlq1 : 1 ≤ lq := by have := Hlq.out; omega
    go_wp2
    go_loopw [10] (fun i wr => LongRel w gu gv wc.heap.size m n lq U0 V i wr) (fun i _ => (intOf i + 1).toNat)
    case atStart =>
      have := LongRel.start hlq1 HUV.out HBu.out HBv.out Hbw.out
      simpa using this
    case round =>
      obtain ⟨K, U, Q, hK, hi, HU, HUl, HQ, hBu, hBv, hBq, hbw⟩ := hrel
      rcases hi with ⟨rfl, rfl⟩ | ⟨k, rfl, rfl⟩
      · have hUV2 : U < V := by have := HUl.out; rwa [Nat.pow_zero, Nat.mul_one] at this
        have hq1 : Q = U0 / V := by rw [← HU.out, Nat.add_mul_div_left _ _ hVpos, Nat.div_eq_of_lt hUV2, Nat.zero_add]
        have hq2 : U = U0 % V := by rw [← HU.out, Nat.add_mul_mod_self_left, Nat.mod_eq_of_lt hUV2]
        rw [hq1, Hdiv.out] at hBq
        have hUd : U / 2 ^ b = X % Y := by rw [hq2, Hmod.out, Nat.mul_div_cancel _ (Nat.pow_pos (by omega))]
        have hUl : U < 4294967296 ^ n := Nat.lt_trans hUV2 HVl.out
        have hguq : gu < wc.heap.size := HBu.out.lt
        have hwq := Hbw.out.size
        have HUd := Lib.hid hUd
        have HUl2 := Lib.hid hUl
        have Hst := Lib.hid (show ShrRel w gu wc.heap.size m n lq b U (X / Y) (.int .i64 0) wr from ⟨0, Nat.zero_le _, rfl, by rw [shrN_zero]; exact hBu, hBq, hbw⟩)
        clear hUV2 hq1 hq2 hBq hUd hUl hBu hBv hbw
        go_wp2_with fail
        go_loopw [146] (fun i wr => ShrRel w gu wc.heap.size m n lq b U (X / Y) i wr) (fun i _ => n - (intOf i).toNat)
        case atStart => exact Hst.out
        case round =>
          obtain ⟨k, hk, rfl, hB, hBq, hbw⟩ := hrel
          by_cases hlt : k < n
          · obtain ⟨x, hx⟩ : ∃ x, x = U / 4294967296 ^ k % 4294967296 := ⟨_, rfl⟩
            have hxl : x < 4294967296 := by rw [hx]; exact Nat.mod_lt _ (by omega)
            have hcx := blk_dig hB (k := k) (by omega)
            rw [shrN_dig (by omega), ← hx] at hcx
            have hfx := hB.free k
            obtain ⟨x1, hx1⟩ : ∃ x1, x1 = x / 2 ^ b := ⟨_, rfl⟩
            have hx1i : (x : Int) / 2 ^ b = (x1 : Int) := by rw [hx1]; simp
            have hdig := shr32 (U := U) (i := k) hbl
            rw [← hx, ← hx1] at hdig
            have hset := shrN_digs (B := 4294967296) (U := U) (p := 2 ^ b) (i := k) (m := m + 1) (by omega) (by omega)
            by_cases hk1 : k + 1 < n
            · obtain ⟨y, hy⟩ : ∃ y, y = U / 4294967296 ^ (k + 1) % 4294967296 := ⟨_, rfl⟩
              have hyl : y < 4294967296 := by rw [hy]; exact Nat.mod_lt _ (by omega)
              have hcy := blk_dig hB (k := k + 1) (by omega)
              rw [shrN_next (by omega), ← hy] at hcy
              rw [← hy] at hdig
              obtain ⟨c, hc⟩ : ∃ c, c = 32 - b := ⟨_, rfl⟩
              have hci : (32 : Int) - (b : Int) = (c : Int) := by omega
              have hcl : c ≤ 32 := by omega
              rw [← hc] at hdig
              have hpc : (2 : Nat) ^ c ≤ 4294967296 := Nat.le_trans (Nat.pow_le_pow_right (by omega) hcl) (by decide)
              obtain ⟨p, hp⟩ : ∃ p, p = y * 2 ^ c := ⟨_, rfl⟩
              have hpl : p < 18446744073709551616 := by
                rw [hp]
                have := Nat.mul_le_mul (show y ≤ 4294967295 by omega) hpc
                omega
              rw [← hp] at hdig
              obtain ⟨z, hz⟩ : ∃ z, z = p % 4294967296 := ⟨_, rfl⟩
              have hzl : z < 4294967296 := by omega
              rw [← hz] at hdig
              have hx1l : x1 < 2 ^ c := by
                rw [hx1, Nat.div_lt_iff_lt_mul (Nat.pow_pos (by omega)), ← Nat.pow_add, show c + b = 32 by omega]
                exact hxl
              have hx1B : x1 < 4294967296 := by omega
              have hzc : z = 2 ^ c * (y % 2 ^ b) := by
                rw [hz, hp, Nat.mul_comm, show (4294967296 : Nat) = 2 ^ c * 2 ^ b by rw [← Nat.pow_add, show c + b = 32 by omega], Nat.mul_mod_mul_left]
              have hor : bits .or .u32 (x1 : Int) (z : Int) = ((x1 + z : Nat) : Int) := by
                rw [u32_or x1 z hx1B hzl]
                congr 1
                rw [Nat.or_comm, hzc, or_add _ _ _ hx1l]
                omega
              have hxz : x1 + z < 4294967296 := by rw [← hdig]; exact Nat.mod_lt _ (by omega)
              have w1 : IntKind.u64.wrap ((y : Int) * 2 ^ c) = (p : Int) := by
                rw [show (y : Int) * 2 ^ c = (p : Int) by rw [hp]; simp, IntKind.wrap_u64]
                omega
              have w2 : IntKind.u32.wrap (p : Int) = (z : Int) := by rw [IntKind.wrap_u32]; omega
              have w3 : IntKind.u64.wrap (y : Int) = y := by rw [IntKind.wrap_u64]; omega
              have w4 : IntKind.i64.wrap (c : Int) = c := by rw [IntKind.wrap_i64]; omega
              obtain ⟨k2, hk2⟩ : ∃ k2, k2 = k + 1 := ⟨_, rfl⟩
              have w5 : IntKind.i64.wrap (k2 : Int) = (k2 : Int) := by rw [IntKind.wrap_i64]; omega
              have w6 : (k : Int) + 1 = (k2 : Int) := by omega
              have w7 : k2 < m + 1 := by omega
              have w7' : (k2 : Int) < (m : Int) + 1 := by omega
              have w7'' : k2 ≤ m := by omega
              have hk1i : (k2 : Int) < (n : Int) := by omega
              rw [hdig] at hset
              have hB8 := blk_setn hB k x1
              rw [show wvn x1 = Value.int .u32 (x1 : Int) from rfl] at hB8
              have hq8 := hBq.far (show wc.heap.size ≠ gu by omega) (p := ⟨gu, k, none⟩) (.int .u32 (x1 : Int))
              have hb8 := hbw.setCell (p := ⟨gu, k, none⟩) hgu (.int .u32 (x1 : Int))
              have Hset := Lib.hid hset
              have HB8 := Lib.hid hB8
              have Hq8 := Lib.hid hq8
              have Hb8 := Lib.hid hb8
              have hcy8 : (wr.setCell ⟨gu, k, none⟩ (.int .u32 (x1 : Int))).cell? ⟨gu, k2, none⟩ = some (.int .u32 (y : Int)) := by
                rw [hk2]
                exact (World.cell?_setCell_other (w := wr) (v := .int .u32 (x1 : Int)) (a := ⟨gu, k, none⟩) (b := ⟨gu, k + 1, none⟩) (h := by simp)).trans hcy
              have hcx8 := World.cell?_setCell_same (w := wr) (v := .int .u32 (x1 : Int)) (h := hcx)
              have hfx8 := hB8.free k
              have hxz2 : ((x1 + z : Nat) : Int) = (x1 : Int) + (z : Int) := by omega
              rw [hxz2] at hor
              have Hk2 := Lib.hid hk2
              clear hk2 hB hBq hbw hx hx1 hdig hset hz hzc hp hc hy hB8 hq8 hb8 hxz2 hx1l hpc
              go_upto_region 24 with (fail)
              generalize wr.setCell ⟨gu, k, none⟩ (.int .u32 (x1 : Int)) = w8 at hcy8 hcx8 hfx8 HB8 Hq8 Hb8 ⊢
              clear hcx hfx hcy
              have hb9 : Below w.heap.size w w8.drew := Hb8.out.drew
              have hB9 : Blk w8.drew gu 137 (((digs 4294967296 (m + 1) (shrN 4294967296 U (2 ^ b) k)).set k x1).map wvn).toArray := HB8.out
              have hq9 : Blk w8.drew wc.heap.size 137 ((digs 4294967296 lq (X / Y)).map wvn).toArray := Hq8.out
              have hcx9 : w8.drew.cell? ⟨gu, k, none⟩ = some (.int .u32 (x1 : Int)) := hcx8
              have hfx9 : w8.drew.frozen? ⟨gu, k, none⟩ = false := hfx8
              go_still_tail 16, (by kernel_rfl)
              change wpList _ _ _ _ _ w8.drew
              generalize w8.drew = w9 at hb9 hB9 hq9 hcx9 hfx9 ⊢
              have hst := blk_setn hB9 k (x1 + z)
              rw [List.set_set, Hset.out, show wvn (x1 + z) = Value.int .u32 ((x1 : Int) + (z : Int)) by unfold wvn; congr 1] at hst
              have HP := Lib.hid (show ShrRel w gu wc.heap.size m n lq b U (X / Y) (.int .i64 (k2 : Int)) (w9.setCell ⟨gu, k, none⟩ (.int .u32 ((x1 : Int) + (z : Int)))) from ⟨k + 1, by omega, by rw [Hk2.out], hst, hq9.far (show wc.heap.size ≠ gu by omega) _, hb9.setCell hgu _⟩)
              clear hB9 hq9 hb9 hst hcx8 hfx8 hcy8 HB8 Hq8 Hb8
              go_wp2
              go_roundw
              case rel => exact HP.out
              case measure => have := Hk2.out; simp [intOf]; omega
            · have hz : U / 4294967296 ^ (k + 1) = 0 := by
                rw [show k + 1 = n by omega]
                exact Nat.div_eq_of_lt HUl2.out
              rw [hz] at hdig
              simp only [Nat.zero_mod, Nat.zero_mul, Nat.add_zero] at hdig
              rw [hdig] at hset
              have hst := blk_setn hB k x1
              rw [hset, show wvn x1 = Value.int .u32 (x1 : Int) from rfl] at hst
              have HP := Lib.hid (show ShrRel w gu wc.heap.size m n lq b U (X / Y) (.int .i64 ((k : Int) + 1)) (wr.setCell ⟨gu, k, none⟩ (.int .u32 (x1 : Int))) from ⟨k + 1, by omega, by go_num, hst, hBq.far (show wc.heap.size ≠ gu by omega) _, hbw.setCell hgu _⟩)
              have hk1i : ¬ (k : Int) + 1 < (n : Int) := by omega
              clear hB hBq hbw hx hx1 hdig hset hz hst
              go_wp2
              go_roundw
              case rel => exact HP.out
              case measure => simp [intOf]; omega
          · obtain rfl : k = n := by omega
            rw [shrN_end HUl2.out, HUd.out] at hB
            have HP := Lib.hid (show LongPost w m k X Y (.returned (.tuple #[.slice (some ⟨wc.heap.size, 0, none⟩) lq lq, .slice (some ⟨gu, 0, none⟩) k (m + 1)])) wr from ⟨wc.heap.size, gu, m + 1, by rw [Hlq.out], by rw [← Hlq.out]; exact hBq, hB, hbw⟩)
            clear hB hBq hbw
            go_wp2
            go_ret2
            exact HP.out
      · obtain ⟨a, ha⟩ : ∃ a, a = k + n := ⟨_, rfl⟩
        obtain ⟨a1, ha1⟩ : ∃ a1, a1 = k + n - 1 := ⟨_, rfl⟩
        have hai : (k : Int) + (n : Int) = (a : Int) := by omega
        have ha1i : (a : Int) - 1 = (a1 : Int) := by omega
        have ham : a < m + 1 := by have := Hlq.out; omega
        have ha1m : a1 < m + 1 := by omega
        have wa : IntKind.i64.wrap (a : Int) = a := by rw [IntKind.wrap_i64]; omega
        have wa1 : IntKind.i64.wrap (a1 : Int) = a1 := by rw [IntKind.wrap_i64]; omega
        obtain ⟨u1, hu1⟩ : ∃ u1, u1 = U / 4294967296 ^ a % 4294967296 := ⟨_, rfl⟩
        obtain ⟨u2, hu2⟩ : ∃ u2, u2 = U / 4294967296 ^ a1 % 4294967296 := ⟨_, rfl⟩
        have hu1l : u1 < 4294967296 := by rw [hu1]; exact Nat.mod_lt _ (by omega)
        have hu2l : u2 < 4294967296 := by rw [hu2]; exact Nat.mod_lt _ (by omega)
        have c1 := blk_dig hBu ham
        have c2 := blk_dig hBu ha1m
        rw [← hu1] at c1
        rw [← hu2] at c2
        obtain ⟨t, ht⟩ : ∃ t, t = u1 * 4294967296 + u2 := ⟨_, rfl⟩
        have htl : t < 18446744073709551616 := by omega
        have hor := u64_pair u1 u2 hu1l hu2l
        rw [← ht] at hor
        have wu1 : IntKind.u64.wrap (u1 : Int) = u1 := by rw [IntKind.wrap_u64]; omega
        have wu2 : IntKind.u64.wrap (u2 : Int) = u2 := by rw [IntKind.wrap_u64]; omega
        have wu3 : IntKind.u64.wrap ((u1 : Int) * 4294967296) = (u1 : Int) * 4294967296 := by rw [IntKind.wrap_u64]; omega
        have Ha := Lib.hid ha
        have Ha1 := Lib.hid ha1
        have Hu1 := Lib.hid hu1
        have Hu2 := Lib.hid hu2
        have Ht := Lib.hid ht
        clear ha ha1 hu1 hu2 ht
        go_wp2
        go_quiet (fail)
        have hBu := hBu.drewN nq
        have hBv := hBv.drewN nq
        have hBq := hBq.drewN nq
        have hbw := below_drewN hbw nq
        generalize wr.drewN nq = w3 at hBu hBv hBq hbw ⊢
        clear c1 c2
        obtain ⟨v1, hv1⟩ : ∃ v1, v1 = V / 4294967296 ^ (n - 1) := ⟨_, rfl⟩
        have hv1l : v1 < 4294967296 := by
          rw [hv1, Nat.div_lt_iff_lt_mul (Nat.pow_pos (by omega)), Nat.mul_comm, ← Nat.pow_succ, show (n - 1).succ = n by omega]
          exact HVl.out
        have hv1p : 0 < v1 := by rw [hv1]; exact Nat.div_pos HVt.out (Nat.pow_pos (by omega))
        have cv1 := blk_dig hBv (k := n1) (by omega)
        rw [Hn1.out, ← hv1, Nat.mod_eq_of_lt hv1l, ← Hn1.out] at cv1
        obtain ⟨d0, hd0⟩ : ∃ d0, d0 = t / v1 := ⟨_, rfl⟩
        obtain ⟨r0, hr0⟩ : ∃ r0, r0 = t % v1 := ⟨_, rfl⟩
        have hd0l : d0 < 18446744073709551616 := by rw [hd0]; exact Nat.lt_of_le_of_lt (Nat.div_le_self _ _) htl
        have hr0l : r0 < v1 := by rw [hr0]; exact Nat.mod_lt _ hv1p
        have e1 : (t : Int).tdiv (v1 : Int) = (d0 : Int) := by rw [hd0]; rfl
        have e2 : (t : Int).tmod (v1 : Int) = (r0 : Int) := by rw [hr0]; rfl
        have e3 : (t : Int) / (v1 : Int) = (d0 : Int) := by rw [hd0]; rfl
        have e4 : (t : Int) % (v1 : Int) = (r0 : Int) := by rw [hr0]; rfl
        have e5 : ((v1 : Int) == 0) = false := by simp; omega
        have e6 : IntKind.u64.wrap (d0 : Int) = d0 := by rw [IntKind.wrap_u64]; omega
        have e7 : IntKind.u64.wrap (r0 : Int) = r0 := by rw [IntKind.wrap_u64]; omega
        have e8 : IntKind.u64.wrap (v1 : Int) = v1 := by rw [IntKind.wrap_u64]; omega
        have wn1 : IntKind.i64.wrap (n1 : Int) = n1 := by rw [IntKind.wrap_i64]; omega
        have Hv1 := Lib.hid hv1
        have Hd0 := Lib.hid hd0
        have Hr0 := Lib.hid hr0
        clear hv1 hd0 hr0
        go_wp2
        go_quiet (fail)
        have hBu := hBu.drewN nq
        have hBv := hBv.drewN nq
        have hBq := hBq.drewN nq
        have hbw := below_drewN hbw nq
        generalize w3.drewN nq = w4 at hBu hBv hBq hbw ⊢
        obtain ⟨W, hW⟩ : ∃ W, W = U / 4294967296 ^ k := ⟨_, rfl⟩
        obtain ⟨l1, l2, l3, l4, l5, l6⟩ := long_step (B := 4294967296) (k := k) (by omega) hVpos HU.out HUl.out HQ.out
        rw [← hW] at l1 l2 l3 l4 l5
        have hWl : W < 4294967296 ^ (n + 1) := by
          rw [Nat.pow_succ]
          exact Nat.lt_trans l1 (Nat.mul_lt_mul_of_pos_right HVl.out (by omega))
        have hWd : ∀ j, U / 4294967296 ^ (k + j) = W / 4294967296 ^ j := fun j => by rw [hW, Nat.div_div_eq_div_mul, Nat.pow_add]
        have htW : t = W / 4294967296 ^ (n - 1) := by
          rw [Ht.out, Hu1.out, Hu2.out, Ha.out, Ha1.out, hWd, show k + n - 1 = k + (n - 1) by omega, hWd]
          exact top_two (by omega) (by omega) hWl
        obtain ⟨a2, ha2⟩ : ∃ a2, a2 = k + n - 2 := ⟨_, rfl⟩
        obtain ⟨n2, hn2⟩ : ∃ n2, n2 = n - 2 := ⟨_, rfl⟩
        have ha2i : (a : Int) - 2 = (a2 : Int) := by have := Ha.out; omega
        have hn2i : (n : Int) - 2 = (n2 : Int) := by omega
        have hn2l : n2 < n := by omega
        have ha2m : a2 < m + 1 := by omega
        have wa2 : IntKind.i64.wrap (a2 : Int) = a2 := by rw [IntKind.wrap_i64]; omega
        have wn2 : IntKind.i64.wrap (n2 : Int) = n2 := by rw [IntKind.wrap_i64]; omega
        obtain ⟨v2, hv2⟩ : ∃ v2, v2 = V / 4294967296 ^ (n - 2) % 4294967296 := ⟨_, rfl⟩
        obtain ⟨u3, hu3⟩ : ∃ u3, u3 = W / 4294967296 ^ (n - 2) % 4294967296 := ⟨_, rfl⟩
        have hv2l : v2 < 4294967296 := by rw [hv2]; exact Nat.mod_lt _ (by omega)
        have hu3l : u3 < 4294967296 := by rw [hu3]; exact Nat.mod_lt _ (by omega)
        have cv2 := blk_dig hBv (k := n2) (by omega)
        rw [hn2, ← hv2, ← hn2] at cv2
        have cu3 := blk_dig hBu (k := a2) (by omega)
        rw [ha2, show k + n - 2 = k + (n - 2) by omega, hWd, ← hu3, ← show k + n - 2 = k + (n - 2) by omega, ← ha2] at cu3
        have cv1 := blk_dig hBv (k := n1) (by omega)
        rw [Hn1.out, ← Hv1.out, Nat.mod_eq_of_lt hv1l, ← Hn1.out] at cv1
        have HG0 := Lib.hid (show Guess 4294967296 V W n d0 r0 by
          rw [Hd0.out, Hr0.out, htW, Hv1.out]
          exact Guess.start (by omega) hn (by rw [← Hv1.out]; exact hv1p) (by rw [← Hv1.out]; omega) hVpos)
        have HWV := Lib.hid l1
        have Hl := Lib.hid (And.intro l2 (And.intro l3 (And.intro l4 (And.intro l5 l6))))
        have HWl := Lib.hid hWl
        have HW := Lib.hid hW
        have Hv2 := Lib.hid hv2
        have Hu3 := Lib.hid hu3
        clear hW l1 l2 l3 l4 l5 l6 hWl hWd htW ha2 hn2 hv2 hu3 hr0l e1 e2 e3 e4 e5 e6 e7 HU HUl HQ hor wu1 wu2 wu3
        go_upto_block 2 with (fail)
        go_cut [12] (fun dv wx => ∃ d q : Nat, dv = .int .u64 d ∧ Hid (Guessed 4294967296 V W d) ∧ wx = w4.drewN q)
        case first =>
          go_wp2_with fail
          go_loopw [12, 13] (fun dv rv wr => ∃ d r q : Nat, dv = .int .u64 d ∧ rv = .int .u64 r ∧ d ≤ d0 ∧ r < 4294967296 ∧ Hid (Guess 4294967296 V W n d r) ∧ wr = w4.drewN q) (fun dv _ _ => (intOf dv).toNat)
          case atStart => exact ⟨d0, r0, 0, rfl, rfl, Nat.le_refl _, HG0.out.2.1, HG0, rfl⟩
          case round =>
            obtain ⟨d, r, q, rfl, rfl, hd, hr, HG, rfl⟩ := hrel
            by_cases hdB : 4294967296 ≤ d
            · have g0 : (0 : Int) < (d : Int) / 4294967296 := by omega
              have g1 : decide ((0 : Int) < (d : Int) / 4294967296) = true := decide_eq_true g0
              have wd : IntKind.u64.wrap (d : Int) = d := by rw [IntKind.wrap_u64]; omega
              have wd2 : IntKind.u64.wrap ((d : Int) / 4294967296) = (d : Int) / 4294967296 := by rw [IntKind.wrap_u64]; omega
              have hdec := HG.out.dec (by omega) hn hVpos HWV.out (.inl hdB)
              have hdv := (show ((d : Int) - 1) = ((d - 1 : Nat) : Int) from by have := hdec.1; omega)
              have hrv1 := (show ((r : Int) + (v1 : Int)) = ((r + v1 : Nat) : Int) from by omega)
              have hd1 := hdec.1
              have Hdec := Lib.hid hdec
              clear hdec
              by_cases hrv : 4294967296 ≤ r + v1
              · have g2 : (0 : Int) < ((r + v1 : Nat) : Int) / 4294967296 := by omega
                have g3 : decide ((0 : Int) < ((r + v1 : Nat) : Int) / 4294967296) = true := decide_eq_true g2
                have HP := Lib.hid (show Guessed 4294967296 V W (d - 1) from HG.out.left (by omega) hn (by rw [← Hv1.out]; exact hv1p) HWV.out Hdec.out (by rw [← Hv1.out]; exact hrv))
                have Hdv := Lib.hid hdv
                clear hdv hrv1
                go_wp2
                go_quiet (fail)
                go_wp2
                go_meet
                exact ⟨d - 1, q + nq, by rw [← Hdv.out], HP, rfl⟩
              · have g2 : ¬ (0 : Int) < ((r + v1 : Nat) : Int) / 4294967296 := by omega
                have HP := Lib.hid (show Guess 4294967296 V W n (d - 1) (r + v1) from by
                  have := HG.out.down Hdec.out (by rw [← Hv1.out]; omega)
                  rwa [← Hv1.out] at this)
                have Hdv := Lib.hid hdv
                have Hrv := Lib.hid hrv1
                clear hdv hrv1
                go_wp2
                go_quiet (fail)
                go_wp2
                go_roundw
                case rel => exact ⟨d - 1, r + v1, q + nq, by rw [← Hdv.out], by rw [← Hrv.out], by omega, by omega, HP, rfl⟩
                case measure => have := Hdec.out.1; simp [intOf]; omega
            · have g0 : ¬ (0 : Int) < (d : Int) / 4294967296 := by omega
              have g1 : decide ((0 : Int) < (d : Int) / 4294967296) = false := decide_eq_false g0
              have wd : IntKind.u64.wrap (d : Int) = d := by rw [IntKind.wrap_u64]; omega
              have wr1 : IntKind.u64.wrap (r : Int) = r := by rw [IntKind.wrap_u64]; omega
              have wr2 : IntKind.u64.wrap ((r : Int) * 4294967296) = (r : Int) * 4294967296 := by rw [IntKind.wrap_u64]; omega
              have wv2 : IntKind.u64.wrap (v2 : Int) = v2 := by rw [IntKind.wrap_u64]; omega
              have wu3 : IntKind.u64.wrap (u3 : Int) = u3 := by rw [IntKind.wrap_u64]; omega
              have hpb := mul_le_bound (show d < 4294967296 by omega) hv2l
              obtain ⟨p, hp⟩ : ∃ p, p = d * v2 := ⟨_, rfl⟩
              rw [← hp] at hpb
              have hpi : (d : Int) * (v2 : Int) = (p : Int) := by rw [hp]; simp
              have wp : IntKind.u64.wrap (p : Int) = p := by rw [IntKind.wrap_u64]; omega
              have hor2 := u64_pair r u3 hr hu3l
              obtain ⟨s, hs⟩ : ∃ s, s = r * 4294967296 + u3 := ⟨_, rfl⟩
              rw [← hs] at hor2
              by_cases hsp : s < p
              · have g4 : (s : Int) < (p : Int) := by omega
                have hdec := HG.out.dec (by omega) hn hVpos HWV.out (.inr (by rw [← Hu3.out, ← Hv2.out, ← hs, ← hp]; exact hsp))
                clear hp hs
                have hdv := (show ((d : Int) - 1) = ((d - 1 : Nat) : Int) from by have := hdec.1; omega)
                have hrv1 := (show ((r : Int) + (v1 : Int)) = ((r + v1 : Nat) : Int) from by omega)
                have hd1 := hdec.1
                have Hdec := Lib.hid hdec
                clear hdec
                by_cases hrv : 4294967296 ≤ r + v1
                · have g2 : (0 : Int) < ((r + v1 : Nat) : Int) / 4294967296 := by omega
                  have g3 : decide ((0 : Int) < ((r + v1 : Nat) : Int) / 4294967296) = true := decide_eq_true g2
                  have HP := Lib.hid (show Guessed 4294967296 V W (d - 1) from HG.out.left (by omega) hn (by rw [← Hv1.out]; exact hv1p) HWV.out Hdec.out (by rw [← Hv1.out]; exact hrv))
                  have Hdv := Lib.hid hdv
                  clear hdv hrv1
                  go_wp2
                  go_quiet (fail)
                  go_wp2
                  go_meet
                  exact ⟨d - 1, q + nq, by rw [← Hdv.out], HP, rfl⟩
                · have g2 : ¬ (0 : Int) < ((r + v1 : Nat) : Int) / 4294967296 := by omega
                  have HP := Lib.hid (show Guess 4294967296 V W n (d - 1) (r + v1) from by
                    have := HG.out.down Hdec.out (by rw [← Hv1.out]; omega)
                    rwa [← Hv1.out] at this)
                  have Hdv := Lib.hid hdv
                  have Hrv := Lib.hid hrv1
                  clear hdv hrv1
                  go_wp2
                  go_quiet (fail)
                  go_wp2
                  go_roundw
                  case rel => exact ⟨d - 1, r + v1, q + nq, by rw [← Hdv.out], by rw [← Hrv.out], by omega, by omega, HP, rfl⟩
                  case measure => have := Hdec.out.1; simp [intOf]; omega
              · have g4 : ¬ (s : Int) < (p : Int) := by omega
                have g5 : decide ((s : Int) < (p : Int)) = false := decide_eq_false g4
                have HP := Lib.hid (show Guessed 4294967296 V W d from HG.out.done (by omega) hn (by rw [← Hv1.out]; exact hv1p) (by omega) (by rw [← Hu3.out, ← Hv2.out, ← hs, ← hp]; omega))
                clear hp hs
                go_wp2
                go_quiet (fail)
                go_wp2
                go_meet
                exact ⟨d, q + nq, rfl, HP, by rw [World.drewN_drewN]⟩
        case rest =>
          obtain ⟨d, q, rfl, HGd, rfl⟩ := hcut
          have hBu := hBu.drewN q
          have hBv := hBv.drewN q
          have hBq := hBq.drewN q
          have hbw := below_drewN hbw q
          generalize w4.drewN q = w5 at hBu hBv hBq hbw ⊢
          have hdB := HGd.out.1
          have hgq : wc.heap.size < w5.heap.size := hBq.lt
          have hwcl := Hbw.out.size
          have hgul := HBu.out.lt
          have hgvl := HBv.out.lt
          have HT := Lib.hid (take_any w5 gu gv (m + 1) (n + 1) U V k n d (m + 1 - k) (n + 1) (fun e => hguv e.symm) (by omega) (by omega) (by omega) (by omega) hdB HVl.out (by rw [← HW.out]; exact HWl.out) hBu hBv)
          have HBv5 := Lib.hid hBv
          have HBq5 := Lib.hid hBq
          have Hbw5 := Lib.hid hbw
          have hsz : a + 1 - k = n + 1 := by have := Ha.out; omega
          clear hBu hBv hBq hbw cv1 cv2 cu3
          have hVB : V ≤ 4294967296 ^ (n + 1) := Nat.le_of_lt (Nat.lt_of_lt_of_le HVl.out (Nat.pow_le_pow_right (by omega) (by omega)))
          have HVB := Lib.hid hVB
          clear hVB
          go_wp2_with fail
          refine HT.out.mono ?_
          rintro e w6 ⟨bb, N, rfl, hB6, hch6, hN, hNl⟩
          rw [← HW.out] at hN
          have hBv6 := hch6.blk HBv5.out (fun e => hguv e.symm)
          have hBq6 := hch6.blk HBq5.out (by omega)
          have hbw6 := Hbw5.out.trans (hch6.below hgu Hbw5.out.size)
          cases bb
          · obtain ⟨r1, r2⟩ := HGd.out.right (M := 1) hVpos (by simpa using hN)
            rw [r2] at hB6
            have hdl := Hl.out.1
            rw [← r1] at hdl
            have hcq := blk_dig hBq6 (k := k) (by omega)
            have hfq := hBq6.free k
            have hst := blk_setn hBq6 k d
            rw [digs_new (by omega) (by omega) hdl Hl.out.2.2.2.2, show wvn d = Value.int .u32 (d : Int) from rfl] at hst
            have HP := Lib.hid (LongRel.step (i := k) (by omega) Hl.out r1 (hB6.far (show gu ≠ wc.heap.size by omega) _) (hBv6.far (show gv ≠ wc.heap.size by omega) _) hst (hbw6.setCell (show w.heap.size ≤ wc.heap.size by omega) _))
            clear hB6 hch6 hN hNl hBv6 hBq6 hbw6 r1 r2 hst
            go_wp2
            go_roundw
            case rel => exact HP.out
            case measure => simp [intOf]
          · obtain ⟨r1, r2⟩ := HGd.out.wrong hVpos HVB.out hNl (by simpa using hN)
            have HBk := Lib.hid (back_any w6 gu gv (m + 1) (n + 1) U V N k n (m + 1 - k) (n + 1) (fun e => hguv e.symm) (by omega) (by omega) (by omega) (by omega) HVl.out hNl hB6 hBv6)
            have HBv6 := Lib.hid hBv6
            have HBq6 := Lib.hid hBq6
            have Hbw6 := Lib.hid hbw6
            have hd1 : 1 ≤ d := by rw [r1]; exact Nat.le_add_left _ _
            have R1 := Lib.hid r1
            have R2 := Lib.hid r2
            clear hB6 hch6 hN hNl hBv6 hBq6 hbw6 r1 r2
            go_wp2_with fail
            refine HBk.out.mono ?_
            rintro e w7 ⟨rfl, hB7, hch7⟩
            rw [R2.out] at hB7
            have hBv7 := hch7.blk HBv6.out (fun e => hguv e.symm)
            have hBq7 := hch7.blk HBq6.out (by omega)
            have hbw7 := Hbw6.out.trans (hch7.below hgu Hbw6.out.size)
            have hdl := Hl.out.1
            have hde : d - 1 = W / V := by rw [R1.out, Nat.add_sub_cancel]
            rw [← hde] at hdl
            have hcq := blk_dig hBq7 (k := k) (by omega)
            have hfq := hBq7.free k
            have hst := blk_setn hBq7 k (d - 1)
            have hdi : ((d - 1 : Nat) : Int) = (d : Int) - 1 := by omega
            rw [digs_new (by omega) (by omega) hdl Hl.out.2.2.2.2, show wvn (d - 1) = Value.int .u32 ((d : Int) - 1) by unfold wvn; rw [hdi]] at hst
            have HP := Lib.hid (LongRel.step (i := k) (by omega) Hl.out hde (hB7.far (show gu ≠ wc.heap.size by omega) _) (hBv7.far (show gv ≠ wc.heap.size by omega) _) hst (hbw7.setCell (show w.heap.size ≤ wc.heap.size by omega) _))
            clear hB7 hch7 hBv7 hBq7 hbw7 hst hde hdi
            go_wp2
            go_roundw
            case rel => exact HP.out
            case measure => simp [intOf]
end Go.Proofs.YthmgcbpmfipfiaaDoor
