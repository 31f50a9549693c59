/- nat.halves: the greatest common divisor by halves and differences. Conditions: those typed. -/
import Derived.Test.YthmgcbpmfipfiaaDoorGcdC
import Derived.Deep.CutBlock
namespace Go.Proofs.YthmgcbpmfipfiaaDoor
open Go.RowKit Go.Gy
set_option linter.unusedVariables false
section
variable {P : Program} {ops : Array Oper} {rest : List Oper} {o : Oper} {a : Act} {w : World} {Q : Exit → Act → World → Prop}
theorem wpList_min2 (hgd : o.guard = none) (x y : Operand) (ts : Array TypeId) (ho : o.op = .call { callee := .builtin .min, args := #[x, y], argTypes := ts }) (n m : Int) (hx : a.eval x = .int .i64 n) (hy : a.eval y = .int .i64 m) (k : Int) (hk : min n m = k)
    (h : wpList P ops Q rest (a.put o.dst (.int .i64 k)) w) : wpList P ops Q (o :: rest) a w :=
  wpList_plain hgd fun _ hK => by
    have e : (if m < n then m else n) = k := by rw [← hk]; split <;> omega
    unfold Oper.wp execOp
    simp only [ho, resolve, invoke, builtin, Sem.run_bind, Sem.run_pure, Result.andThen_ok, List.map_toArray, List.map_cons, List.map_nil, hx, hy, run_min_int2, e]
    exact hK _ _ h
end
/-- the slice v, in block g, holds the digits of X, without zeros at its end -/
def Lm (w : World) (g : Nat) (v : Value) (X K : Nat) : Prop := ∃ o c, v = .slice (some ⟨g, o, none⟩) (llen X) c ∧ llen X ≤ c ∧ llen X ≤ K ∧ Lim w g o (llen X) X
theorem Lm.drewN {w : World} {g X K : Nat} {v : Value} (h : Lm w g v X K) (q : Nat) : Lm (w.drewN q) g v X K := h
theorem Lm.chg {w w' : World} {g g' X K : Nat} {v : Value} (h : Lm w g v X K) (hc : Chg g' w w') (hne : g ≠ g') : Lm w' g v X K := by
  obtain ⟨o, c, h1, h2, h3, h4⟩ := h
  exact ⟨o, c, h1, h2, h3, h4.chg hc hne⟩
theorem Lm.below {w w' : World} {g X K B : Nat} {v : Value} (h : Lm w g v X K) (hb : Below B w w') (hg : g < B) : Lm w' g v X K := by
  obtain ⟨o, c, h1, h2, h3, h4⟩ := h
  exact ⟨o, c, h1, h2, h3, h4.below hb hg⟩
theorem Lm.lt {w : World} {g X K : Nat} {v : Value} (h : Lm w g v X K) : g < w.heap.size := by
  obtain ⟨o, c, h1, h2, h3, h4⟩ := h
  exact h4.lt
def HRel (w : World) (G K N : Nat) (x y : Value) (wr : World) : Prop := ∃ gx gy X Y, Lm wr gx x X K ∧ Lm wr gy y Y K ∧ gx ≠ gy ∧ w.heap.size ≤ gx ∧ w.heap.size ≤ gy ∧ Hid (X % 2 = 1) ∧ Hid (Y % 2 = 1) ∧ Hid (Nat.gcd X Y = G) ∧ X + Y ≤ N ∧ Below w.heap.size w wr
def HCut (w : World) (G K N : Nat) (x y : Value) (wr : World) : Prop := ∃ gx gy X Y, Lm wr gx x X K ∧ Lm wr gy y Y K ∧ gx ≠ gy ∧ w.heap.size ≤ gx ∧ w.heap.size ≤ gy ∧ Hid (X % 2 = 1) ∧ Hid (Y % 2 = 1) ∧ Hid (Nat.gcd X Y = G) ∧ X + Y ≤ N ∧ Y ≤ X ∧ Below w.heap.size w wr
def HEnd (w : World) (G K : Nat) (x y : Value) (wr : World) : Prop := ∃ gx gy X Y, Lm wr gx x X K ∧ Lm wr gy y Y K ∧ gx ≠ gy ∧ w.heap.size ≤ gy ∧ ((llen X = 0 ∧ Y = G) ∨ (llen X = 1 ∧ llen Y = 1 ∧ Nat.gcd X Y = G)) ∧ Below w.heap.size w wr
def HY (w : World) (G K : Nat) (y : Value) (wr : World) : Prop := ∃ gy, Lm wr gy y G K ∧ w.heap.size ≤ gy ∧ Below w.heap.size w wr
def HO (wc : World) (G lg M : Nat) (i : Value) (wr : World) : Prop := ∃ k : Nat, k ≤ lg ∧ i = .int .i64 k ∧ Blk wr wc.heap.size 5 ((beL M (G % 18446744073709551616 ^ k)).map bvn).toArray ∧ Below wc.heap.size wc wr
def HI (wc : World) (G i x M : Nat) (k : Value) (wr : World) : Prop := ∃ j : Nat, j ≤ 8 ∧ k = .int .i64 j ∧ Blk wr wc.heap.size 5 ((beL M (G % 18446744073709551616 ^ i + 18446744073709551616 ^ i * (x / 256 ^ (8 - j) * 256 ^ (8 - j)))).map bvn).toArray ∧ Below wc.heap.size wc wr
def wvb (x k : Nat) : Value := .int .u8 ((x / 256 ^ (7 - k) % 256 : Nat) : Int)
theorem wvb_eq (x k : Nat) (hk : k < 8) : wvb x k = .int .u8 ((x : Int) / 2 ^ (56 - 8 * k) % 256) := by
  unfold wvb
  congr 1
  rw [show (256 : Nat) = 2 ^ 8 from rfl, ← Nat.pow_mul, show 8 * (7 - k) = 56 - 8 * k by omega]
  simp
/-- one byte of a limb is written -/
theorem eight_set {M p i lo x k : Nat} (hM : p + 8 + 8 * i = M) (hlo : lo < 18446744073709551616 ^ i) (hk : k < 8) :
    (beL M (lo + 18446744073709551616 ^ i * (x / 256 ^ (8 - k) * 256 ^ (8 - k)))).set (p + k) (x / 256 ^ (7 - k) % 256) = beL M (lo + 18446744073709551616 ^ i * (x / 256 ^ (7 - k) * 256 ^ (7 - k))) := by
  rw [pow_limb] at *
  obtain ⟨j, hj⟩ : ∃ j, j = 8 * i + (7 - k) := ⟨_, rfl⟩
  have e1 : lo + 256 ^ (8 * i) * (x / 256 ^ (8 - k) * 256 ^ (8 - k)) = lo + 256 ^ (j + 1) * (x / 256 ^ (8 - k)) := by
    rw [hj, show 8 * i + (7 - k) + 1 = 8 * i + (8 - k) by omega, Nat.pow_add]
    grind
  have e2 : x / 256 ^ (7 - k) = x / 256 ^ (7 - k) % 256 + 256 * (x / 256 ^ (8 - k)) := by
    rw [show 8 - k = 7 - k + 1 by omega, Nat.pow_succ, ← Nat.div_div_eq_div_mul, Nat.mod_add_div]
  unfold beL
  rw [rev_set (j := j) (by rw [digs_len]; omega), e1, digs_new (by omega) (by omega) (Nat.mod_lt _ (by omega)) (four_zero hlo (by omega))]
  congr 2
  generalize x / 256 ^ (8 - k) = q at *
  generalize x / 256 ^ (7 - k) % 256 = b at *
  rw [e2, hj, Nat.pow_succ, Nat.pow_add]
  grind
theorem two_byte {r : Nat} (hr : r < 8) : bvn (2 ^ r) = .int .u8 ((2 : Int) ^ r % 256) := by
  unfold bvn
  congr 1
  have h : (2 : Nat) ^ r < 256 := Nat.pow_lt_pow_right (a := 2) (by omega) (show r < 8 from hr)
  have e : (2 : Int) ^ r = ((2 ^ r : Nat) : Int) := by simp
  rw [e]
  generalize (2 : Nat) ^ r = z at h ⊢
  omega
theorem power_str {n q r : Nat} (hr : r = n % 8) (hq : q = n / 8) : sval (strOf (2 ^ r :: List.replicate q 0)) = 2 ^ n := by
  have h : (2 : Nat) ^ r < 256 := Nat.pow_lt_pow_right (a := 2) (by omega) (show r < 8 by omega)
  have e := power_val n q (UInt8.ofNat (2 ^ r)) (by rw [UInt8.toNat_ofNat', Nat.mod_eq_of_lt (by omega), hr]) hq
  unfold sval strOf
  simp only [List.map_cons, List.map_replicate]
  exact e
theorem odd_quot {A n : Nat} (h : OddAt A n) : A / 2 ^ n % 2 = 1 ∧ 2 ^ n ≤ A ∧ A = 2 ^ n * (A / 2 ^ n) := by
  obtain ⟨z, h1, h2⟩ := h
  have hp : 0 < 2 ^ n := Nat.pow_pos (by omega)
  have e : A / 2 ^ n = z := by rw [h1, Nat.mul_div_cancel_left _ hp]
  rw [e]
  refine ⟨h2, ?_, h1⟩
  rw [h1]
  exact Nat.le_mul_of_pos_right _ (by omega)
theorem llen_mono {a b : Nat} (h : a ≤ b) : llen a ≤ llen b := (llen_le _ _).mpr (Nat.lt_of_le_of_lt h (llen_lt b))
theorem llen_pos {a : Nat} (h : a ≠ 0) : 1 ≤ llen a := by
  rcases Nat.eq_zero_or_pos (llen a) with h1 | h1
  · have := llen_lt a
    rw [h1] at this
    omega
  · exact h1
theorem llen_size (A : Nat) (h : (natS A).size ≤ 8796093022208) : llen A ≤ 1099511627776 := by
  rw [natS_size] at h
  unfold llen
  omega
theorem pow_size {A p : Nat} (h : 2 ^ p ≤ A) (hs : (natS A).size ≤ 8796093022208) : p < 70368744177664 := by
  rw [natS_size] at hs
  have h1 := (natL_len_le A _).mp (Nat.le_refl _)
  have h2 : 2 ^ p < 2 ^ (8 * (natL A).length) := by rw [Nat.pow_mul]; exact Nat.lt_of_le_of_lt h h1
  have h3 := (Nat.pow_lt_pow_iff_right (show 1 < 2 by omega)).mp h2
  omega
set_option maxRecDepth 100000 in
set_option maxHeartbeats 8000000 in
theorem halves_any (w : World) (A B : Nat) (hA0 : A ≠ 0) (hB0 : B ≠ 0) (hs : (natS A).size ≤ 8796093022208) (ht : (natS B).size ≤ 8796093022208) (hT : Tab w) (hg : 1 < w.heap.size) :
    Calls Tryd.prog 110 #[.string (natS A), .string (natS B)] w fun e w' => e = .returned (.string (natS (Nat.gcd A B))) ∧ Below w.heap.size w w' := by
  have H1 := Lib.hid (fun w' => limbs_any w' A (by omega))
  have H2 := Lib.hid (fun w' => limbs_any w' B (by omega))
  have hk1 := llen_size A hs
  have hk2 := llen_size B ht
  have HT := Lib.hid (show ∀ w', Below w.heap.size w w' → Tab w' from fun w' hb => hT.below hb hg)
  have HA0 := Lib.hid hA0
  have HB0 := Lib.hid hB0
  have HAl := Lib.hid (llen_lt A)
  have HBl := Lib.hid (llen_lt B)
  have HsA := Lib.hid hs
  have HsB := Lib.hid ht
  obtain ⟨sa, hsa⟩ : ∃ s, s = natS A := ⟨_, rfl⟩
  obtain ⟨sb, hsb⟩ : ∃ s, s = natS B := ⟨_, rfl⟩
  obtain ⟨m, hm⟩ : ∃ m, m = llen A := ⟨_, rfl⟩
  obtain ⟨n, hn⟩ : ∃ n, n = llen B := ⟨_, rfl⟩
  have H1' := Lib.hid (show ∀ w, Calls Tryd.prog 116 #[.string sa] w fun e w' => ∃ G, e = .returned (.slice (some ⟨G, 0, none⟩) m m) ∧ w.heap.size ≤ G ∧ Blk w' G 133 ((digs 18446744073709551616 m A).map lvn).toArray ∧ Below w.heap.size w w' by rw [hm, hsa]; exact H1.out)
  have H2' := Lib.hid (show ∀ w, Calls Tryd.prog 116 #[.string sb] w fun e w' => ∃ G, e = .returned (.slice (some ⟨G, 0, none⟩) n n) ∧ w.heap.size ≤ G ∧ Blk w' G 133 ((digs 18446744073709551616 n B).map lvn).toArray ∧ Below w.heap.size w w' by rw [hn, hsb]; exact H2.out)
  rw [← hsa, ← hsb]
  rw [← hm] at hk1 HAl
  rw [← hn] at hk2 HBl
  have Hm := Lib.hid hm
  have Hn := Lib.hid hn
  clear hT hA0 hB0 hs ht H1 H2 hsa hsb hm hn
  go_enter Tryd.func110, Tryd.ntmps110
  go_wp2_with fail
  refine (H1'.out _).mono ?_
  rintro e w1 ⟨gx, rfl, hgx, hX, hb1⟩
  go_wp2_with fail
  refine (H2'.out w1).mono ?_
  rintro e w2 ⟨gy, rfl, hgy, hY, hb2⟩
  have hgl := hX.lt
  have hLx := Lim.of (hX.below hb2 hgl)
  have hLy := Lim.of hY
  have hbw := hb1.trans (hb2.mono hb1.size)
  have hgyw : w.heap.size ≤ gy := Nat.le_trans hb1.size hgy
  have hne : gx ≠ gy := by omega
  have E1 := Lib.hid (evens_any w2 gx 0 m m A hLx HAl.out HA0.out (Nat.le_refl _) (by omega) (HT.out w2 hbw))
  have E2 := Lib.hid (evens_any w2 gy 0 n n B hLy HBl.out HB0.out (Nat.le_refl _) (by omega) (HT.out w2 hbw))
  have Hbw := Lib.hid hbw
  have HLx := Lib.hid hLx
  have HLy := Lib.hid hLy
  clear hX hY hb1 hb2 hLx hLy hbw hgy hgl H1' H2'
  go_wp2_with fail
  refine E1.out.mono ?_
  rintro e w' ⟨p, rfl, hp, rfl⟩
  go_wp2_with fail
  refine E2.out.mono ?_
  rintro e w' ⟨r, rfl, hr, rfl⟩
  obtain ⟨p1, p2, p3⟩ := odd_quot hp
  obtain ⟨r1, r2, r3⟩ := odd_quot hr
  have R1 := Lib.hid (right_any w2 gx 0 m m A p HLx.out HAl.out (Nat.le_refl _) (by omega) p2)
  have R2 := Lib.hid (show ∀ w', Chg gx w2 w' → Calls Tryd.prog 118 #[.slice (some ⟨gy, 0, none⟩) n n, .int .i64 r] w' (RightPost w' gy (B / 2 ^ r)) from fun w' hc => right_any w' gy 0 n n B r (HLy.out.chg hc (fun e => hne e.symm)) HBl.out (Nat.le_refl _) (by omega) r2)
  have hpb : p < 70368744177664 := pow_size p2 HsA.out
  have hrb : r < 70368744177664 := pow_size r2 HsB.out
  have HG := Lib.hid (show 2 ^ min p r * Nat.gcd (A / 2 ^ p) (B / 2 ^ r) = Nat.gcd A B by
    rw [← gcd_powers p1 r1, ← p3, ← r3])
  have hXle : A / 2 ^ p ≤ A := Nat.div_le_self _ _
  have hYle : B / 2 ^ r ≤ B := Nat.div_le_self _ _
  have HXl := Lib.hid (show llen (A / 2 ^ p) ≤ m + n from Nat.le_trans (by rw [Hm.out]; exact llen_mono hXle) (Nat.le_add_right _ _))
  have HYl := Lib.hid (show llen (B / 2 ^ r) ≤ m + n from Nat.le_trans (by rw [Hn.out]; exact llen_mono hYle) (Nat.le_add_left _ _))
  have P1 := Lib.hid p1
  have Q1 := Lib.hid r1
  clear hp hr p1 p2 p3 r1 r2 r3 hXle hYle E1 E2
  go_wp2_with fail
  refine R1.out.mono ?_
  rintro e w3 ⟨ox, cx, rfl, hcx, hLx, hc3⟩
  go_wp2_with fail
  refine (R2.out w3 hc3).mono ?_
  rintro e w4 ⟨oy, cy, rfl, hcy, hLy, hc4⟩
  have hst : HRel w (Nat.gcd (A / 2 ^ p) (B / 2 ^ r)) (m + n) (A / 2 ^ p + B / 2 ^ r) (.slice (some ⟨gx, ox, none⟩) (llen (A / 2 ^ p)) cx) (.slice (some ⟨gy, oy, none⟩) (llen (B / 2 ^ r)) cy) w4 :=
    ⟨gx, gy, _, _, ⟨ox, cx, rfl, hcx, HXl.out, hLx.chg hc4 hne⟩, ⟨oy, cy, rfl, hcy, HYl.out, hLy⟩, hne, hgx, hgyw, P1, Q1, Lib.hid rfl, Nat.le_refl _, Hbw.out.trans ((hc3.below hgx Hbw.out.size).trans (hc4.below hgyw (Nat.le_trans Hbw.out.size hc3.1.size)))⟩
  obtain ⟨X0, hX0⟩ : ∃ X, X = A / 2 ^ p := ⟨_, rfl⟩
  obtain ⟨Y0, hY0⟩ : ∃ Y, Y = B / 2 ^ r := ⟨_, rfl⟩
  obtain ⟨G, hG⟩ : ∃ G, G = Nat.gcd X0 Y0 := ⟨_, rfl⟩
  rw [← hX0, ← hY0, ← hG] at hst
  rw [← hX0, ← hY0, ← hG] at HG
  obtain ⟨lx, hlx⟩ : ∃ l, l = llen X0 := ⟨_, rfl⟩
  obtain ⟨ly, hly⟩ : ∃ l, l = llen Y0 := ⟨_, rfl⟩
  rw [← hX0, ← hY0]
  rw [← hlx, ← hly] at hst ⊢
  have Hst := Lib.hid hst
  clear hst hLx hLy hc3 hc4 hX0 hY0 hlx hly hcx hcy hG R1 R2 HLx HLy HXl HYl P1 Q1
  obtain ⟨K, hK⟩ : ∃ K, K = m + n := ⟨_, rfl⟩
  have hKl : K ≤ 2199023255552 := by omega
  rw [← hK] at Hst
  go_upto_block 0 with (fail)
  go_cut [5, 6] (fun x y wx => HEnd w G K x y wx)
  case first =>
    go_wp2_with fail
    go_loopg [5, 6] (X0 + Y0) (fun N x y wr => HRel w G K N x y wr)
    case atStart => exact Hst.out
    case round =>
      obtain ⟨gx, gy, X, Y, ⟨ox, cx, rfl, hcx, hKx, hLx⟩, ⟨oy, cy, rfl, hcy, hKy, hLy⟩, hne, hgx, hgy, HXo, HYo, HGc, hN, hbw⟩ := hrel
      have hX0 : X ≠ 0 := fun e => by have := HXo.out; rw [e] at this; cases this
      have hY0 : Y ≠ 0 := fun e => by have := HYo.out; rw [e] at this; cases this
      have hx1 := llen_pos hX0
      have hy1 := llen_pos hY0
      have HBL := Lib.hid (below_limbs wr gx ox cx X gy oy cy Y hLx hLy hcx hcy (by omega) (by omega))
      have HLx := Lib.hid hLx
      have HLy := Lib.hid hLy
      have HE := Lib.hid (show llen X = 1 ∧ llen Y = 1 → HEnd w G K (.slice (some ⟨gx, ox, none⟩) (llen X) cx) (.slice (some ⟨gy, oy, none⟩) (llen Y) cy) wr from fun h => ⟨gx, gy, X, Y, ⟨ox, cx, rfl, hcx, hKx, hLx⟩, ⟨oy, cy, rfl, hcy, hKy, hLy⟩, hne, hgy, .inr ⟨h.1, h.2, HGc.out⟩, hbw⟩)
      have Hbw := Lib.hid hbw
      clear hLx hLy hbw
      by_cases hcond : 1 < llen X ∨ 1 < llen Y
      · have hc2 : (1 < llen X) ∨ (¬ 1 < llen X ∧ 1 < llen Y) := by omega
        clear hcond HE
        rcases hc2 with h1 | ⟨h1, h2⟩
        all_goals
          go_wp2_with fail
          refine HBL.out.mono ?_
          rintro e w' ⟨rfl, q, rfl⟩
          go_upto_if 38 with (fail)
          go_cut [5, 6] (fun x y wx => HCut w G K gk x y wx)
          case first =>
            by_cases hXY : X < Y
            · have hd : decide (X < Y) = true := decide_eq_true hXY
              go_wp2
              go_meet
              exact ⟨gy, gx, Y, X, ⟨oy, cy, rfl, hcy, hKy, HLy.out.drewN q⟩, ⟨ox, cx, rfl, hcx, hKx, HLx.out.drewN q⟩, fun e => hne e.symm, hgy, hgx, HYo, HXo, Lib.hid (by rw [Nat.gcd_comm]; exact HGc.out), by omega, by omega, below_drewN Hbw.out q⟩
            · have hd : decide (X < Y) = false := decide_eq_false hXY
              go_wp2
              go_meet
              exact ⟨gx, gy, X, Y, ⟨ox, cx, rfl, hcx, hKx, HLx.out.drewN q⟩, ⟨oy, cy, rfl, hcy, hKy, HLy.out.drewN q⟩, hne, hgx, hgy, HXo, HYo, HGc, hN, by omega, below_drewN Hbw.out q⟩
          case rest =>
            obtain ⟨gx, gy, X, Y, ⟨ox, cx, rfl, hcx, hKx, hLx⟩, ⟨oy, cy, rfl, hcy, hKy, hLy⟩, hne, hgx, hgy, HXo, HYo, HGc, hN, hYX, hbw⟩ := hcut
            have hY0 : Y ≠ 0 := fun e => by have := HYo.out; rw [e] at this; cases this
            have hDle : llen (X - Y) ≤ llen X := llen_mono (Nat.sub_le _ _)
            have HM := Lib.hid (minus_any wc gx ox cx gy oy cy (llen X) (llen Y) X Y (fun e => hne e.symm) (llen_mono hYX) (by omega) hcx hLx hLy (llen_lt X) (llen_lt Y) hYX)
            have HLy := Lib.hid hLy
            have Hbw := Lib.hid hbw
            clear hLx hLy hbw
            go_wp2_with fail
            refine HM.out.mono ?_
            rintro e w6 ⟨rfl, hL6, hc6⟩
            have hb6 := Hbw.out.trans (hc6.below hgx Hbw.out.size)
            have hLy6 := HLy.out.chg hc6 (fun e => hne e.symm)
            by_cases hD : X = Y
            · have hl0 : llen (X - Y) = 0 := by rw [hD, Nat.sub_self]; unfold llen; rw [natL_zero]; rfl
              have HP := Lib.hid (show HEnd w G K (.slice (some ⟨gx, ox, none⟩) (llen (X - Y)) cx) (.slice (some ⟨gy, oy, none⟩) (llen Y) cy) w6 from ⟨gx, gy, X - Y, Y, ⟨ox, cx, rfl, by omega, by omega, hL6⟩, ⟨oy, cy, rfl, hcy, hKy, hLy6⟩, hne, hgy, .inl ⟨hl0, by rw [← HGc.out, hD, Nat.gcd_self]⟩, hb6⟩)
              rw [hl0] at HP ⊢
              clear hD hl0 hL6 hc6 hb6 hLy6
              go_wp2
              go_meet
              exact HP.out
            · have hD0 : X - Y ≠ 0 := by omega
              have hl1 := llen_pos hD0
              have HEv := Lib.hid (evens_any w6 gx ox (llen (X - Y)) cx (X - Y) hL6 (llen_lt _) hD0 (by omega) (by omega) (HT.out w6 hb6))
              have hlne : ((llen (X - Y) : Int) == 0) = false := by simp; omega
              have HL6 := Lib.hid hL6
              have HLy6 := Lib.hid hLy6
              have Hb6 := Lib.hid hb6
              clear hL6 hc6 hb6 hLy6 hD
              go_wp2_with fail
              refine HEv.out.mono ?_
              rintro e w' ⟨k, rfl, hk, rfl⟩
              obtain ⟨k1, k2, k3⟩ := odd_quot hk
              have HR := Lib.hid (right_any w6 gx ox (llen (X - Y)) cx (X - Y) k HL6.out (llen_lt _) (by omega) (by omega) k2)
              have hXk : (X - Y) / 2 ^ k ≤ X - Y := Nat.div_le_self _ _
              have hlk : llen ((X - Y) / 2 ^ k) ≤ K := Nat.le_trans (llen_mono hXk) (by omega)
              have hgk : Nat.gcd ((X - Y) / 2 ^ k) Y = G := by
                have e := gcd_half (x := (X - Y) / 2 ^ k) (k := k) HYo.out
                rw [← k3, gcd_less hYX, HGc.out] at e
                exact e.symm
              have K1 := Lib.hid k1
              have Hgk := Lib.hid hgk
              clear hk k1 k2 k3 hgk
              go_wp2_with fail
              refine HR.out.mono ?_
              rintro e w7 ⟨o7, c7, rfl, hc7, hL7, hch7⟩
              have HP := Lib.hid (show HRel w G K (gk - 1) (.slice (some ⟨gx, o7, none⟩) (llen ((X - Y) / 2 ^ k)) c7) (.slice (some ⟨gy, oy, none⟩) (llen Y) cy) w7 from ⟨gx, gy, _, Y, ⟨o7, c7, rfl, hc7, hlk, hL7⟩, ⟨oy, cy, rfl, hcy, hKy, HLy6.out.chg hch7 (fun e => hne e.symm)⟩, hne, hgx, hgy, K1, HYo, Hgk, by omega, Hb6.out.trans (hch7.below hgx Hb6.out.size)⟩)
              have hgkp : gk - 1 < gk := by omega
              clear hL7 hch7 hc7 hXk hlk
              go_wp2
              go_roundg (gk - 1)
              case measure => exact hgkp
              case rel => exact HP.out
      · have h1 : ¬ 1 < llen X := by omega
        have h2 : ¬ 1 < llen Y := by omega
        have HP := Lib.hid (HE.out ⟨by omega, by omega⟩)
        clear HE
        go_wp2
        go_meet
        exact HP.out
  case rest =>
    obtain ⟨gx, gy, X, Y, ⟨ox, cx, rfl, hcx, hKx, hLx⟩, ⟨oy, cy, rfl, hcy, hKy, hLy⟩, hne, hgy, hor, hbw⟩ := hcut
    rcases hor with ⟨hl0, hYG⟩ | ⟨hl1, hl2, hXY⟩
    · have HP := Lib.hid (show HY w G K (.slice (some ⟨gy, oy, none⟩) (llen Y) cy) wc from ⟨gy, ⟨oy, cy, by rw [hYG], by rw [← hYG]; exact hcy, by rw [← hYG]; exact hKy, by rw [← hYG]; exact hLy⟩, hgy, hbw⟩)
      have hb0 : ((llen X : Int) == 1) = false := by rw [hl0]; rfl
      clear hLx hLy hYG hl0
      go_upto_if 58 with (fail)
      go_cut [6] (fun y wx => HY w G K y wx)
      case first =>
        go_wp2
        go_meet
        exact HP.out
      case rest =>
        obtain ⟨gy, ⟨oy, cy, rfl, hcy, hKy, hLy⟩, hgy, hbw⟩ := hcut
        obtain ⟨lg, hlg⟩ : ∃ l, l = llen G := ⟨_, rfl⟩
        rw [← hlg] at hcy hKy hLy ⊢
        have hgyl := hLy.lt
        have hGl := llen_lt G
        rw [← hlg] at hGl
        obtain ⟨M, hM⟩ : ∃ M, M = 8 * lg := ⟨_, rfl⟩
        have hMi : (8 : Int) * (lg : Int) = (M : Int) := by omega
        have hMl : M ≤ 8796093022208 := by
          have h1 : G ≤ A := Nat.le_trans (Nat.le_of_dvd (Nat.pos_of_ne_zero (fun e => HA0.out (Nat.eq_zero_of_gcd_eq_zero_left e))) (show G ∣ Nat.gcd A B from ⟨2 ^ min p r, by rw [← HG.out, Nat.mul_comm]⟩)) (Nat.gcd_le_left _ (Nat.pos_of_ne_zero HA0.out))
          have h2 := llen_mono h1
          have h3 := HsA.out
          rw [natS_size] at h3
          unfold llen at h2 hlg
          omega
        have hmk := make_u8 M (by omega) wc
        have Hx := Lib.hid (show ∀ i, i < lg → ∀ wr, Below wc.heap.size wc wr → wr.cell? ⟨gy, oy + i, none⟩ = some (.int .u64 ((G / 18446744073709551616 ^ i % 18446744073709551616 : Nat) : Int)) from fun i hi wr hb => (hb.cell (p := ⟨gy, oy + i, none⟩) hgyl).trans (hLy.cell hi))
        have HGl := Lib.hid hGl
        have HM := Lib.hid hM
        have Hbw := Lib.hid hbw
        clear hLy hGl hM hbw hgyl hlg
        go_wp2
        go_loopw [74] (fun i wr => HO wc G lg M i wr) (fun i _ => lg - (intOf i).toNat)
        case atStart =>
          refine ⟨0, Nat.zero_le _, rfl, ?_, (Below.refl _ _).alloc (Nat.le_refl _) _⟩
          rw [Nat.pow_zero, Nat.mod_one, beL_zero]
          have := Blk.new wc 5 ((List.replicate M 0).map bvn).toArray
          simpa using this
        case round =>
          obtain ⟨wo, rfl⟩ : ∃ wo : World, wo = wr := ⟨_, rfl⟩
          obtain ⟨i, hi, rfl, hB, hb3⟩ := hrel
          by_cases hlt : i < lg
          · have hcx := Hx.out i hlt wo hb3
            obtain ⟨x, hx⟩ : ∃ x, x = G / 18446744073709551616 ^ i % 18446744073709551616 := ⟨_, rfl⟩
            have hxl : x < 18446744073709551616 := by rw [hx]; exact Nat.mod_lt _ (by omega)
            rw [← hx] at hcx
            obtain ⟨d, hd⟩ : ∃ d, d = lg - 1 - i := ⟨_, rfl⟩
            have hdi : (lg : Int) - 1 - (i : Int) = (d : Int) := by omega
            obtain ⟨pp, hpp⟩ : ∃ p, p = 8 * d := ⟨_, rfl⟩
            have hpi : (8 : Int) * (d : Int) = (pp : Int) := by omega
            have hpM : pp + 8 + 8 * i = M := by have := HM.out; omega
            have Hst := Lib.hid (show HI wc G i x M (.int .i64 0) wo from ⟨0, Nat.zero_le _, rfl, by
              rw [show x / 256 ^ (8 - 0) = 0 from Nat.div_eq_of_lt hxl, Nat.zero_mul, Nat.mul_zero, Nat.add_zero]
              exact hB, hb3⟩)
            have HX := Lib.hid hx
            clear hx hB hb3 hd hpp
            go_wp2
            go_loopw [79] (fun k wr => HI wc G i x M k wr) (fun k _ => 8 - (intOf k).toNat)
            case atStart => exact Hst.out
            case round =>
              obtain ⟨k, hk, rfl, hB, hb3⟩ := hrel
              by_cases hk8 : k < 8
              · have hpk : pp + k < M := by omega
                have hpkM : (pp : Int) + (k : Int) < (M : Int) := by omega
                have hcb := hB.cell (pp + k) (bvn ((G % 18446744073709551616 ^ i + 18446744073709551616 ^ i * (x / 256 ^ (8 - k) * 256 ^ (8 - k))) / 256 ^ (M - 1 - (pp + k)) % 256)) (by simp [beL_get M _ (pp + k) hpk])
                have hfb := hB.free (pp + k)
                have hst := blk_setn hB (pp + k) (x / 256 ^ (7 - k) % 256)
                rw [eight_set (i := i) hpM (Nat.mod_lt _ (Nat.pow_pos (by omega))) hk8] at hst
                have He : wvb x k = .int .u8 ((x : Int) / 2 ^ (56 - 8 * k) % 256) := wvb_eq x k hk8
                rw [show bvn (x / 256 ^ (7 - k) % 256) = wvb x k from rfl, He] at hst
                have HP := Lib.hid (show HI wc G i x M (.int .i64 ((k : Int) + 1)) (wr.setCell ⟨wc.heap.size, pp + k, none⟩ (.int .u8 ((x : Int) / 2 ^ (56 - 8 * k) % 256))) from ⟨k + 1, by omega, by go_num, by rw [show 8 - (k + 1) = 7 - k by omega]; exact hst, hb3.setCell (Nat.le_refl _) _⟩)
                clear hB hb3 hst He
                go_wp2
                go_roundw
                case rel => exact HP.out
                case measure => simp [intOf]; omega
              · obtain rfl : k = 8 := by omega
                rw [show x / 256 ^ (8 - 8) * 256 ^ (8 - 8) = x by simp, HX.out, ← mod_succ] at hB
                go_wp2
                go_roundw
                case rel => exact ⟨i + 1, by omega, by go_num, hB, hb3⟩
                case measure => simp [intOf]; omega
          · obtain rfl : i = lg := by omega
            rw [Nat.mod_eq_of_lt HGl.out] at hB
            obtain ⟨nn, hnn⟩ : ∃ nn, nn = min p r := ⟨_, rfl⟩
            have hmin : min (p : Int) (r : Int) = (nn : Int) := by omega
            rw [← hnn] at HG
            obtain ⟨q8, hq8⟩ : ∃ q, q = nn / 8 := ⟨_, rfl⟩
            obtain ⟨r8, hr8⟩ : ∃ q, q = nn % 8 := ⟨_, rfl⟩
            have hq8i : (nn : Int) / 8 = (q8 : Int) := by omega
            have hr8i : (nn : Int) % 8 = (r8 : Int) := by omega
            have hr8t : (nn : Int).tmod 8 = (r8 : Int) := by rw [Int.tmod_eq_emod_of_nonneg (by omega)]; omega
            have hr8l : r8 < 8 := by omega
            have hq8l : q8 + 1 ≤ 8796093022208 := by omega
            have hmk2 := make_u8 (q8 + 1) (by omega) wo
            have hc1 : ((q8 + 1 : Nat) : Int) = (q8 : Int) + 1 := by omega
            rw [hc1] at hmk2
            have Hnn := Lib.hid hnn
            have Hq8 := Lib.hid hq8
            have Hr8 := Lib.hid hr8
            clear Hx hmk hnn hq8 hr8 hc1
            have hBp : Blk (wo.alloc (.cells (Array.replicate (q8 + 1) (bvn 0)) 5)) wo.heap.size 5 ((List.replicate (q8 + 1) 0).map bvn).toArray := by
              have := Blk.new wo 5 ((List.replicate (q8 + 1) 0).map bvn).toArray
              simpa using this
            have hBl := hB.alloc (.cells (Array.replicate (q8 + 1) (bvn 0)) 5)
            have hb4 := hb3.alloc hb3.size (.cells (Array.replicate (q8 + 1) (bvn 0)) 5)
            have hgl : wc.heap.size < wo.heap.size := hB.lt
            clear hB
            go_upto_region 24 with (refine wpList_min2 rfl (.tmp 100) (.tmp 101) _ rfl p r rfl rfl nn hmin ?_)
            generalize hW8 : wo.alloc (.cells (Array.replicate (q8 + 1) (bvn 0)) 5) = w8 at hBp hBl hb4 ⊢
            have hc0 := hBp.cell 0 (bvn 0) (by simp)
            have hf0 := hBp.free 0
            clear hW8
            have hst := blk_setn hBp 0 (2 ^ r8)
            rw [List.replicate_succ, List.set_cons_zero, two_byte hr8l] at hst
            have hBl9 := hBl.far (show wc.heap.size ≠ wo.heap.size by omega) (p := ⟨wo.heap.size, 0, none⟩) (.int .u8 ((2 : Int) ^ r8 % 256))
            have hb9 := hb4.setCell (p := ⟨wo.heap.size, 0, none⟩) (show wc.heap.size ≤ wo.heap.size by omega) (.int .u8 ((2 : Int) ^ r8 % 256))
            generalize hWe : w8.setCell ⟨wo.heap.size, 0, none⟩ (.int .u8 ((2 : Int) ^ r8 % 256)) = w9 at hst hBl9 hb9
            have hcv1 := conv_blk (cap := M) hBl9 (l := beL M G) (List.take_of_length_le (by simp [beL_len]))
            have hcv2 := conv_blk (cap := q8 + 1) hst (l := 2 ^ r8 :: List.replicate q8 0) (List.take_of_length_le (by simp))
            rw [beL_len] at hcv1
            rw [show (2 ^ r8 :: List.replicate q8 0).length = q8 + 1 by simp] at hcv2
            have HM2 := Lib.hid (mul_any w9 (strOf (beL M G)) (strOf (2 ^ r8 :: List.replicate q8 0)) (by simp [strOf, ByteArray.size, beL_len]; exact hMl) (by simp [strOf, ByteArray.size]; omega))
            have hs1 : sval (strOf (beL M G)) = G := by
              rw [sval_beL, HM.out, ← pow_limb]
              exact Nat.mod_eq_of_lt HGl.out
            have hs2 : sval (strOf (2 ^ r8 :: List.replicate q8 0)) = 2 ^ nn := power_str (by rw [Hr8.out]) (by rw [Hq8.out])
            rw [hs1, hs2] at HM2
            have Hb9 := Lib.hid (Hbw.out.trans (hb9.mono Hbw.out.size))
            clear hst hBl9 hb9 hBp hBl hb4 hb3 hs1 hs2
            go_upto_region 25 with (fail)
            clear hc0 hf0 hWe
            go_wp2_with fail
            refine HM2.out.mono ?_
            rintro e w10 ⟨rfl, hb10⟩
            go_wp2
            go_ret
            exact ⟨ret_str (by rw [Nat.mul_comm, HG.out]), Hb9.out.trans (hb10.mono Hb9.out.size)⟩
    · have hcX := hLx.cell (j := 0) (by omega)
      have hcY := hLy.cell (j := 0) (by omega)
      have hfY := hLy.free oy
      have hXl := llen_lt X
      have hYl := llen_lt Y
      rw [hl1, Nat.pow_one] at hXl
      rw [hl2, Nat.pow_one] at hYl
      rw [Nat.pow_zero, Nat.div_one, Nat.mod_eq_of_lt hXl, Nat.add_zero] at hcX
      rw [Nat.pow_zero, Nat.div_one, Nat.mod_eq_of_lt hYl, Nat.add_zero] at hcY
      rw [hl1, hl2]
      rw [hl2] at hLy
      have HCm := Lib.hid (fun w => common_any w X Y hXl hYl)
      rw [hXY] at HCm
      have hY0 : Y ≠ 0 := fun e => by rw [e] at hl2; unfold llen at hl2; rw [natL_zero] at hl2; cases hl2
      have hGY : G ≤ Y := by rw [← hXY]; exact Nat.gcd_le_right _ (Nat.pos_of_ne_zero hY0)
      have hG0 : G ≠ 0 := fun e => by rw [← hXY] at e; exact hY0 (Nat.eq_zero_of_gcd_eq_zero_right e)
      have hGl : llen G = 1 := by
        have h1 := llen_pos hG0
        have h2 := llen_mono hGY
        omega
      have HP := Lib.hid (show ∀ q, HY w G K (.slice (some ⟨gy, oy, none⟩) 1 cy) ((wc.drewN (1 + q)).setCell ⟨gy, oy, none⟩ (.int .u64 (G : Int))) from fun q => ⟨gy, ⟨oy, cy, by rw [hGl], by omega, by omega, by
        rw [hGl]
        have h1 := (hLy.drewN (1 + q)).set (j := 0) (v := G) (by omega) (by omega)
        have h2 := h1.digs (X' := G) (by omega) (by omega) (by simp [digs, Nat.mod_eq_of_lt (show G < 18446744073709551616 by omega)])
        exact h2⟩, hgy, (below_drewN hbw (1 + q)).setCell hgy _⟩)
      clear hY0 hGY hG0 hGl hXY hLx hLy
      go_upto_if 58 with (fail)
      go_cut [6] (fun y wx => HY w G K y wx)
      case first =>
        go_wp2_with fail
        go_region_with (first | (go_at_call 109; refine (HCm.out _).mono ?_; rintro e w' ⟨rfl, q, rfl⟩))
        all_goals
          go_wp2
          go_meet
          exact HP.out q
      case rest =>
        obtain ⟨gy, ⟨oy, cy, rfl, hcy, hKy, hLy⟩, hgy, hbw⟩ := hcut
        obtain ⟨lg, hlg⟩ : ∃ l, l = llen G := ⟨_, rfl⟩
        rw [← hlg] at hcy hKy hLy ⊢
        have hgyl := hLy.lt
        have hGl := llen_lt G
        rw [← hlg] at hGl
        obtain ⟨M, hM⟩ : ∃ M, M = 8 * lg := ⟨_, rfl⟩
        have hMi : (8 : Int) * (lg : Int) = (M : Int) := by omega
        have hMl : M ≤ 8796093022208 := by
          have h1 : G ≤ A := Nat.le_trans (Nat.le_of_dvd (Nat.pos_of_ne_zero (fun e => HA0.out (Nat.eq_zero_of_gcd_eq_zero_left e))) (show G ∣ Nat.gcd A B from ⟨2 ^ min p r, by rw [← HG.out, Nat.mul_comm]⟩)) (Nat.gcd_le_left _ (Nat.pos_of_ne_zero HA0.out))
          have h2 := llen_mono h1
          have h3 := HsA.out
          rw [natS_size] at h3
          unfold llen at h2 hlg
          omega
        have hmk := make_u8 M (by omega) wc
        have Hx := Lib.hid (show ∀ i, i < lg → ∀ wr, Below wc.heap.size wc wr → wr.cell? ⟨gy, oy + i, none⟩ = some (.int .u64 ((G / 18446744073709551616 ^ i % 18446744073709551616 : Nat) : Int)) from fun i hi wr hb => (hb.cell (p := ⟨gy, oy + i, none⟩) hgyl).trans (hLy.cell hi))
        have HGl := Lib.hid hGl
        have HM := Lib.hid hM
        have Hbw := Lib.hid hbw
        clear hLy hGl hM hbw hgyl hlg
        go_wp2
        go_loopw [74] (fun i wr => HO wc G lg M i wr) (fun i _ => lg - (intOf i).toNat)
        case atStart =>
          refine ⟨0, Nat.zero_le _, rfl, ?_, (Below.refl _ _).alloc (Nat.le_refl _) _⟩
          rw [Nat.pow_zero, Nat.mod_one, beL_zero]
          have := Blk.new wc 5 ((List.replicate M 0).map bvn).toArray
          simpa using this
        case round =>
          obtain ⟨wo, rfl⟩ : ∃ wo : World, wo = wr := ⟨_, rfl⟩
          obtain ⟨i, hi, rfl, hB, hb3⟩ := hrel
          by_cases hlt : i < lg
          · have hcx := Hx.out i hlt wo hb3
            obtain ⟨x, hx⟩ : ∃ x, x = G / 18446744073709551616 ^ i % 18446744073709551616 := ⟨_, rfl⟩
            have hxl : x < 18446744073709551616 := by rw [hx]; exact Nat.mod_lt _ (by omega)
            rw [← hx] at hcx
            obtain ⟨d, hd⟩ : ∃ d, d = lg - 1 - i := ⟨_, rfl⟩
            have hdi : (lg : Int) - 1 - (i : Int) = (d : Int) := by omega
            obtain ⟨pp, hpp⟩ : ∃ p, p = 8 * d := ⟨_, rfl⟩
            have hpi : (8 : Int) * (d : Int) = (pp : Int) := by omega
            have hpM : pp + 8 + 8 * i = M := by have := HM.out; omega
            have Hst := Lib.hid (show HI wc G i x M (.int .i64 0) wo from ⟨0, Nat.zero_le _, rfl, by
              rw [show x / 256 ^ (8 - 0) = 0 from Nat.div_eq_of_lt hxl, Nat.zero_mul, Nat.mul_zero, Nat.add_zero]
              exact hB, hb3⟩)
            have HX := Lib.hid hx
            clear hx hB hb3 hd hpp
            go_wp2
            go_loopw [79] (fun k wr => HI wc G i x M k wr) (fun k _ => 8 - (intOf k).toNat)
            case atStart => exact Hst.out
            case round =>
              obtain ⟨k, hk, rfl, hB, hb3⟩ := hrel
              by_cases hk8 : k < 8
              · have hpk : pp + k < M := by omega
                have hpkM : (pp : Int) + (k : Int) < (M : Int) := by omega
                have hcb := hB.cell (pp + k) (bvn ((G % 18446744073709551616 ^ i + 18446744073709551616 ^ i * (x / 256 ^ (8 - k) * 256 ^ (8 - k))) / 256 ^ (M - 1 - (pp + k)) % 256)) (by simp [beL_get M _ (pp + k) hpk])
                have hfb := hB.free (pp + k)
                have hst := blk_setn hB (pp + k) (x / 256 ^ (7 - k) % 256)
                rw [eight_set (i := i) hpM (Nat.mod_lt _ (Nat.pow_pos (by omega))) hk8] at hst
                have He : wvb x k = .int .u8 ((x : Int) / 2 ^ (56 - 8 * k) % 256) := wvb_eq x k hk8
                rw [show bvn (x / 256 ^ (7 - k) % 256) = wvb x k from rfl, He] at hst
                have HP := Lib.hid (show HI wc G i x M (.int .i64 ((k : Int) + 1)) (wr.setCell ⟨wc.heap.size, pp + k, none⟩ (.int .u8 ((x : Int) / 2 ^ (56 - 8 * k) % 256))) from ⟨k + 1, by omega, by go_num, by rw [show 8 - (k + 1) = 7 - k by omega]; exact hst, hb3.setCell (Nat.le_refl _) _⟩)
                clear hB hb3 hst He
                go_wp2
                go_roundw
                case rel => exact HP.out
                case measure => simp [intOf]; omega
              · obtain rfl : k = 8 := by omega
                rw [show x / 256 ^ (8 - 8) * 256 ^ (8 - 8) = x by simp, HX.out, ← mod_succ] at hB
                go_wp2
                go_roundw
                case rel => exact ⟨i + 1, by omega, by go_num, hB, hb3⟩
                case measure => simp [intOf]; omega
          · obtain rfl : i = lg := by omega
            rw [Nat.mod_eq_of_lt HGl.out] at hB
            obtain ⟨nn, hnn⟩ : ∃ nn, nn = min p r := ⟨_, rfl⟩
            have hmin : min (p : Int) (r : Int) = (nn : Int) := by omega
            rw [← hnn] at HG
            obtain ⟨q8, hq8⟩ : ∃ q, q = nn / 8 := ⟨_, rfl⟩
            obtain ⟨r8, hr8⟩ : ∃ q, q = nn % 8 := ⟨_, rfl⟩
            have hq8i : (nn : Int) / 8 = (q8 : Int) := by omega
            have hr8i : (nn : Int) % 8 = (r8 : Int) := by omega
            have hr8t : (nn : Int).tmod 8 = (r8 : Int) := by rw [Int.tmod_eq_emod_of_nonneg (by omega)]; omega
            have hr8l : r8 < 8 := by omega
            have hq8l : q8 + 1 ≤ 8796093022208 := by omega
            have hmk2 := make_u8 (q8 + 1) (by omega) wo
            have hc1 : ((q8 + 1 : Nat) : Int) = (q8 : Int) + 1 := by omega
            rw [hc1] at hmk2
            have Hnn := Lib.hid hnn
            have Hq8 := Lib.hid hq8
            have Hr8 := Lib.hid hr8
            clear Hx hmk hnn hq8 hr8 hc1
            have hBp : Blk (wo.alloc (.cells (Array.replicate (q8 + 1) (bvn 0)) 5)) wo.heap.size 5 ((List.replicate (q8 + 1) 0).map bvn).toArray := by
              have := Blk.new wo 5 ((List.replicate (q8 + 1) 0).map bvn).toArray
              simpa using this
            have hBl := hB.alloc (.cells (Array.replicate (q8 + 1) (bvn 0)) 5)
            have hb4 := hb3.alloc hb3.size (.cells (Array.replicate (q8 + 1) (bvn 0)) 5)
            have hgl : wc.heap.size < wo.heap.size := hB.lt
            clear hB
            go_upto_region 24 with (refine wpList_min2 rfl (.tmp 100) (.tmp 101) _ rfl p r rfl rfl nn hmin ?_)
            generalize hW8 : wo.alloc (.cells (Array.replicate (q8 + 1) (bvn 0)) 5) = w8 at hBp hBl hb4 ⊢
            have hc0 := hBp.cell 0 (bvn 0) (by simp)
            have hf0 := hBp.free 0
            clear hW8
            have hst := blk_setn hBp 0 (2 ^ r8)
            rw [List.replicate_succ, List.set_cons_zero, two_byte hr8l] at hst
            have hBl9 := hBl.far (show wc.heap.size ≠ wo.heap.size by omega) (p := ⟨wo.heap.size, 0, none⟩) (.int .u8 ((2 : Int) ^ r8 % 256))
            have hb9 := hb4.setCell (p := ⟨wo.heap.size, 0, none⟩) (show wc.heap.size ≤ wo.heap.size by omega) (.int .u8 ((2 : Int) ^ r8 % 256))
            generalize hWe : w8.setCell ⟨wo.heap.size, 0, none⟩ (.int .u8 ((2 : Int) ^ r8 % 256)) = w9 at hst hBl9 hb9
            have hcv1 := conv_blk (cap := M) hBl9 (l := beL M G) (List.take_of_length_le (by simp [beL_len]))
            have hcv2 := conv_blk (cap := q8 + 1) hst (l := 2 ^ r8 :: List.replicate q8 0) (List.take_of_length_le (by simp))
            rw [beL_len] at hcv1
            rw [show (2 ^ r8 :: List.replicate q8 0).length = q8 + 1 by simp] at hcv2
            have HM2 := Lib.hid (mul_any w9 (strOf (beL M G)) (strOf (2 ^ r8 :: List.replicate q8 0)) (by simp [strOf, ByteArray.size, beL_len]; exact hMl) (by simp [strOf, ByteArray.size]; omega))
            have hs1 : sval (strOf (beL M G)) = G := by
              rw [sval_beL, HM.out, ← pow_limb]
              exact Nat.mod_eq_of_lt HGl.out
            have hs2 : sval (strOf (2 ^ r8 :: List.replicate q8 0)) = 2 ^ nn := power_str (by rw [Hr8.out]) (by rw [Hq8.out])
            rw [hs1, hs2] at HM2
            have Hb9 := Lib.hid (Hbw.out.trans (hb9.mono Hbw.out.size))
            clear hst hBl9 hb9 hBp hBl hb4 hb3 hs1 hs2
            go_upto_region 25 with (fail)
            clear hc0 hf0 hWe
            go_wp2_with fail
            refine HM2.out.mono ?_
            rintro e w10 ⟨rfl, hb10⟩
            go_wp2
            go_ret
            exact ⟨ret_str (by rw [Nat.mul_comm, HG.out]), Hb9.out.trans (hb10.mono Hb9.out.size)⟩
end Go.Proofs.YthmgcbpmfipfiaaDoor
