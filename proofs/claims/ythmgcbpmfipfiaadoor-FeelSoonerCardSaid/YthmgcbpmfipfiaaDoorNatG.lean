/- nat.left, nat.takeAway, nat.putBack: what long division does. Conditions: those typed. -/
import Derived.Test.YthmgcbpmfipfiaaDoorNatF
namespace Go.Proofs.YthmgcbpmfipfiaaDoor
open Go.RowKit Go.Gy
set_option linter.unusedVariables false
/-- a number whose digits from one on are another's -/
def winU (B U off N : Nat) : Nat := U % B ^ off + B ^ off * N
theorem winU_dig {B : Nat} (hB : 0 < B) (U off N i : Nat) : winU B U off N / B ^ (off + i) % B = N / B ^ i % B := by
  unfold winU
  rw [Nat.pow_add, ← Nat.div_div_eq_div_mul, low_div (Nat.mod_lt _ (pow_pos' hB off))]
theorem winU_set {B M U off N i v : Nat} (hB : 0 < B) (hi : off + i < M) (hv : v < B) : (digs B M (winU B U off N)).set (off + i) v = digs B M (winU B U off (updN B N i v)) := by
  refine digs_upd hB hi hv ?_
  rw [winU_dig hB]
  have h1 := updN_eq hB N i v
  unfold winU
  rw [Nat.pow_add, Nat.mul_assoc, Nat.mul_assoc]
  have h2 : B ^ off * (updN B N i v + B ^ i * (N / B ^ i % B)) = B ^ off * (N + B ^ i * v) := by rw [h1]
  rw [Nat.mul_add, Nat.mul_add] at h2
  omega
theorem winU_self (B U off : Nat) : winU B U off (U / B ^ off) = U := Nat.mod_add_div U (B ^ off)
def TakeRel (w : World) (gu M U off n V d : Nat) (c b i : Value) (wr : World) : Prop := ∃ k N x y : Nat, k ≤ n ∧ i = .int .i64 k ∧ c = .int .u64 x ∧ b = .int .u64 y ∧ x < 4294967296 ∧ y ≤ 1 ∧ Hid (N + d * (V % 4294967296 ^ k) = U / 4294967296 ^ off + (x + y) * 4294967296 ^ k) ∧ Hid (N / 4294967296 ^ k = U / 4294967296 ^ off / 4294967296 ^ k) ∧ Blk wr gu 137 ((digs 4294967296 M (winU 4294967296 U off N)).map wvn).toArray ∧ Chg gu w wr
def TakePost (w : World) (gu M U off n V d : Nat) (e : Ending) (w' : World) : Prop := ∃ (b : Bool) (N : Nat), e = .returned (.bool b) ∧ Blk w' gu 137 ((digs 4294967296 M (winU 4294967296 U off N)).map wvn).toArray ∧ Chg gu w w' ∧ N + d * V = U / 4294967296 ^ off + (if b then 1 else 0) * 4294967296 ^ (n + 1) ∧ N < 4294967296 ^ (n + 1)
theorem word_sub2 (u s b : Nat) (hu : u < 4294967296) (hs : s < 4294967296) (hb : b ≤ 1) : Value.int .u32 (IntKind.u64.wrap (IntKind.u64.wrap ((u : Int) - (s : Int)) - (b : Int)) % 4294967296) = wvn ((u + 4294967296 - s + 4294967296 - b) % 4294967296) ∧ Value.int .u64 (IntKind.u64.wrap (IntKind.u64.wrap ((u : Int) - (s : Int)) - (b : Int)) / 9223372036854775808) = .int .u64 ((if u < s + b then 1 else 0 : Nat) : Int) := by
  unfold wvn
  rw [IntKind.wrap_u64, IntKind.wrap_u64]
  constructor
  · congr 1
    omega
  · congr 1
    by_cases h : u < s + b
    · rw [if_pos h]; omega
    · rw [if_neg h]; omega
set_option maxRecDepth 100000 in
set_option maxHeartbeats 4000000 in
theorem take_any (w : World) (gu gv M K U V off n d c1 c2 : Nat) (hne : gv ≠ gu) (hM : off + n + 1 ≤ M) (hK : n ≤ K) (hm : M ≤ 35184372088832) (hc1 : n + 1 ≤ c1) (hd : d < 4294967296) (hVl : V < 4294967296 ^ n) (hW : U / 4294967296 ^ off < 4294967296 ^ (n + 1))
    (hU : Blk w gu 137 ((digs 4294967296 M U).map wvn).toArray) (hV : Blk w gv 137 ((digs 4294967296 K V).map wvn).toArray) :
    Calls Tryd.prog 123 #[.slice (some ⟨gu, off, none⟩) (n + 1) c1, .slice (some ⟨gv, 0, none⟩) n c2, .int .u64 d] w (TakePost w gu M U off n V d) := by
  have Hv := Lib.hid (show ∀ k, k < n → ∀ wr, Chg gu w wr → wr.cell? ⟨gv, k, none⟩ = some (.int .u32 ((V / 4294967296 ^ k % 4294967296 : Nat) : Int)) from fun k hk wr hb => (hb.cell hV.lt hne).trans (blk_dig hV (by omega)))
  have Hst := Lib.hid (show TakeRel w gu M U off n V d (.int .u64 0) (.int .u64 0) (.int .i64 0) w from ⟨0, _, 0, 0, Nat.zero_le _, rfl, rfl, rfl, by omega, by omega, Lib.hid (by simp [Nat.mod_one]), Lib.hid rfl, by rw [winU_self]; exact hU, Chg.refl _ _⟩)
  have HVl := Lib.hid hVl
  have HW := Lib.hid hW
  clear hU hV hVl hW
  go_enter Tryd.func123, Tryd.ntmps123
  go_wp2
  go_loopw [7, 8, 15] (fun c b i wr => TakeRel w gu M U off n V d c b i wr) (fun _ _ i _ => n - (intOf i).toNat)
  case atStart => exact Hst.out
  case round =>
    obtain ⟨k, N, x, y, hk, rfl, rfl, rfl, hx, hy, HN, HD, hB, hch⟩ := hrel
    by_cases hlt : k < n
    · have hcv := Hv.out k hlt wr hch
      obtain ⟨v, hv⟩ : ∃ v, v = V / 4294967296 ^ k % 4294967296 := ⟨_, rfl⟩
      obtain ⟨u, hu⟩ : ∃ u, u = U / 4294967296 ^ off / 4294967296 ^ k % 4294967296 := ⟨_, rfl⟩
      have hvl : v < 4294967296 := by rw [hv]; exact Nat.mod_lt _ (by omega)
      have hul : u < 4294967296 := by rw [hu]; exact Nat.mod_lt _ (by omega)
      rw [← hv] at hcv
      have hcu := blk_dig hB (k := off + k) (by omega)
      rw [winU_dig (by omega), HD.out, ← hu] at hcu
      have hfu := hB.free (off + k)
      obtain ⟨s1, s2, s3, s4, s5⟩ := take_step (B := 4294967296) (n := n) (by omega) HN.out HD.out hy hx hd
      rw [← hv, ← hu] at s1 s2 s4 s5
      rw [← hv] at s3
      have hpb := mul_le_bound hd hvl
      obtain ⟨p, hp⟩ : ∃ p, p = d * v := ⟨_, rfl⟩
      rw [← hp] at hpb s1 s2 s3 s4 s5
      have hpi : (d : Int) * (v : Int) = (p : Int) := by rw [hp]; simp
      obtain ⟨t, ht⟩ : ∃ t, t = x + p := ⟨_, rfl⟩
      rw [← ht] at s1 s2 s3 s4 s5
      have hti : (x : Int) + (p : Int) = (t : Int) := by omega
      have htl : t ≤ 18446744069414584320 := by omega
      obtain ⟨s, hs⟩ : ∃ s, s = t % 4294967296 := ⟨_, rfl⟩
      rw [← hs] at s1 s2 s4 s5
      have hsi : (t : Int) % 4294967296 = (s : Int) := by omega
      have hsl : s < 4294967296 := by omega
      have E := Lib.hid (word_sub2 u s y hul hsl hy)
      have hst := blk_setn hB (off + k) ((u + 4294967296 - s + 4294967296 - y) % 4294967296)
      rw [winU_set (by omega) (by omega) s5, ← E.out.1] at hst
      have Hst := Lib.hid hst
      have S1 := Lib.hid s1
      have S2 := Lib.hid s2
      have S3 := Lib.hid s3
      have S4 := Lib.hid s4
      have E2 := Lib.hid (show Value.int .u64 ((t : Int) / 4294967296) = .int .u64 ((t / 4294967296 : Nat) : Int) by congr 1)
      clear hv hu hp ht hs hst hB HN HD s1 s2 s3 s4 s5
      go_wp2
      go_roundw
      case rel => exact ⟨k + 1, _, _, _, by omega, by go_num, E2.out, E.out.2, S3.out, S4.out, S1, S2, Hst.out, hch.set _ _⟩
      case measure => simp [intOf]; omega
    · obtain rfl : k = n := by omega
      obtain ⟨u, hu⟩ : ∃ u, u = U / 4294967296 ^ off / 4294967296 ^ k % 4294967296 := ⟨_, rfl⟩
      have hul : u < 4294967296 := by rw [hu]; exact Nat.mod_lt _ (by omega)
      have hcu := blk_dig hB (k := off + k) (by omega)
      rw [winU_dig (by omega), HD.out, ← hu] at hcu
      have hfu := hB.free (off + k)
      obtain ⟨s1, s2, s3⟩ := take_end (B := 4294967296) (by omega) HN.out HD.out HVl.out HW.out hy hx
      rw [← hu] at s1 s2 s3
      have E := Lib.hid (word_sub2 u x y hul hx hy)
      have hst := blk_setn hB (off + k) ((u + 4294967296 - x + 4294967296 - y) % 4294967296)
      rw [winU_set (by omega) (by omega) s3, ← E.out.1] at hst
      have HP := Lib.hid (show ∀ b : Bool, b = decide (u < x + y) → TakePost w gu M U off k V d (.returned (.bool b)) (wr.setCell ⟨gu, off + k, none⟩ (.int .u32 (IntKind.u64.wrap (IntKind.u64.wrap ((u : Int) - (x : Int)) - (y : Int)) % 4294967296))) from fun b hb => ⟨b, _, rfl, hst, hch.set _ _, by
        rw [s1, hb]
        by_cases h : u < x + y
        · simp [h]
        · simp [h], s2⟩)
      have HE := Lib.hid (show (0 < IntKind.u64.wrap (IntKind.u64.wrap ((u : Int) - (x : Int)) - (y : Int)) / 9223372036854775808) ↔ u < x + y by
        have := E.out.2
        injection this with _ h
        rw [h]
        by_cases h : u < x + y
        · simp [h]
        · simp [h])
      clear hu hst hB HN HD s1 s2 s3
      go_wp2
      go_ret
      exact HP.out _ (decide_eq_decide.mpr HE.out)
def BackRel (w : World) (gu M U off n V W : Nat) (c i : Value) (wr : World) : Prop := ∃ k N x : Nat, k ≤ n ∧ i = .int .i64 k ∧ c = .int .u64 x ∧ x ≤ 1 ∧ Hid (N + x * 4294967296 ^ k = W + V % 4294967296 ^ k) ∧ Hid (N / 4294967296 ^ k = W / 4294967296 ^ k) ∧ Blk wr gu 137 ((digs 4294967296 M (winU 4294967296 U off N)).map wvn).toArray ∧ Chg gu w wr
set_option maxRecDepth 100000 in
set_option maxHeartbeats 4000000 in
theorem back_any (w : World) (gu gv M K U V W off n c1 c2 : Nat) (hne : gv ≠ gu) (hM : off + n + 1 ≤ M) (hK : n ≤ K) (hm : M ≤ 35184372088832) (hc1 : n + 1 ≤ c1) (hVl : V < 4294967296 ^ n) (hW : W < 4294967296 ^ (n + 1))
    (hU : Blk w gu 137 ((digs 4294967296 M (winU 4294967296 U off W)).map wvn).toArray) (hV : Blk w gv 137 ((digs 4294967296 K V).map wvn).toArray) :
    Calls Tryd.prog 124 #[.slice (some ⟨gu, off, none⟩) (n + 1) c1, .slice (some ⟨gv, 0, none⟩) n c2] w fun e w' => e = .returned (.tuple #[]) ∧ Blk w' gu 137 ((digs 4294967296 M (winU 4294967296 U off ((W + V) % 4294967296 ^ (n + 1)))).map wvn).toArray ∧ Chg gu w w' := by
  have Hv := Lib.hid (show ∀ k, k < n → ∀ wr, Chg gu w wr → wr.cell? ⟨gv, k, none⟩ = some (.int .u32 ((V / 4294967296 ^ k % 4294967296 : Nat) : Int)) from fun k hk wr hb => (hb.cell hV.lt hne).trans (blk_dig hV (by omega)))
  have Hst := Lib.hid (show BackRel w gu M U off n V W (.int .u64 0) (.int .i64 0) w from ⟨0, _, 0, Nat.zero_le _, rfl, rfl, by omega, Lib.hid (by simp [Nat.mod_one]), Lib.hid rfl, hU, Chg.refl _ _⟩)
  have HVl := Lib.hid hVl
  have HW := Lib.hid hW
  clear hU hV hVl hW
  go_enter Tryd.func124, Tryd.ntmps124
  go_wp2
  go_loopw [4, 9] (fun c i wr => BackRel w gu M U off n V W c i wr) (fun _ i _ => n - (intOf i).toNat)
  case atStart => exact Hst.out
  case round =>
    obtain ⟨k, N, x, hk, rfl, rfl, hx, HN, HD, hB, hch⟩ := hrel
    by_cases hlt : k < n
    · have hcv := Hv.out k hlt wr hch
      obtain ⟨v, hv⟩ : ∃ v, v = V / 4294967296 ^ k % 4294967296 := ⟨_, rfl⟩
      obtain ⟨u, hu⟩ : ∃ u, u = W / 4294967296 ^ k % 4294967296 := ⟨_, rfl⟩
      have hvl : v < 4294967296 := by rw [hv]; exact Nat.mod_lt _ (by omega)
      have hul : u < 4294967296 := by rw [hu]; exact Nat.mod_lt _ (by omega)
      rw [← hv] at hcv
      have hcu := blk_dig hB (k := off + k) (by omega)
      rw [winU_dig (by omega), HD.out, ← hu] at hcu
      have hfu := hB.free (off + k)
      obtain ⟨s1, s2, s3⟩ := back_step (B := 4294967296) (by omega) HN.out HD.out hx
      rw [← hv, ← hu] at s1 s2 s3
      have hst := blk_setn hB (off + k) ((x + u + v) % 4294967296)
      rw [winU_set (by omega) (by omega) (Nat.mod_lt _ (by omega)), show wvn ((x + u + v) % 4294967296) = .int .u32 (((x : Int) + ((u : Int) + (v : Int))) % 4294967296) by unfold wvn; congr 1; omega] at hst
      have Hst := Lib.hid hst
      have S1 := Lib.hid s1
      have S2 := Lib.hid s2
      have S3 := Lib.hid s3
      have E2 := Lib.hid (show Value.int .u64 (((x : Int) + ((u : Int) + (v : Int))) / 4294967296) = .int .u64 (((x + u + v) / 4294967296 : Nat) : Int) by congr 1; omega)
      clear hv hu hst hB HN HD s1 s2 s3
      go_wp2
      go_roundw
      case rel => exact ⟨k + 1, _, _, by omega, by go_num, E2.out, S3.out, S1, S2, Hst.out, hch.set _ _⟩
      case measure => simp [intOf]; omega
    · obtain rfl : k = n := by omega
      obtain ⟨u, hu⟩ : ∃ u, u = W / 4294967296 ^ k % 4294967296 := ⟨_, rfl⟩
      have hul : u < 4294967296 := by rw [hu]; exact Nat.mod_lt _ (by omega)
      have hcu := blk_dig hB (k := off + k) (by omega)
      rw [winU_dig (by omega), HD.out, ← hu] at hcu
      have hfu := hB.free (off + k)
      have s1 := back_end (B := 4294967296) (by omega) HN.out HD.out HVl.out HW.out
      rw [← hu] at s1
      have hst := blk_setn hB (off + k) ((u + x) % 4294967296)
      rw [winU_set (by omega) (by omega) (Nat.mod_lt _ (by omega)), s1, show wvn ((u + x) % 4294967296) = .int .u32 (((u : Int) + (x : Int)) % 4294967296) by unfold wvn; congr 1] at hst
      have Hst := Lib.hid hst
      clear hu hst hB HN HD s1
      go_wp2
      go_end0
      exact ⟨rfl, Hst.out, hch.set _ _⟩
def LeftRel (w : World) (X p m : Nat) (i : Value) (wr : World) : Prop := ∃ k : Nat, k ≤ m ∧ i = .int .i64 k ∧ Blk wr w.heap.size 137 ((digs 4294967296 (m + 1) (X % 4294967296 ^ k * p)).map wvn).toArray ∧ Below w.heap.size w wr
set_option maxRecDepth 100000 in
set_option maxHeartbeats 4000000 in
theorem left_any (w : World) (gx m X b : Nat) (hm : m ≤ 17592186044416) (hb : b < 32) (hX : Blk w gx 137 ((digs 4294967296 m X).map wvn).toArray) (hXl : X < 4294967296 ^ m) :
    Calls Tryd.prog 122 #[.slice (some ⟨gx, 0, none⟩) m m, .int .i64 b] w fun e w' => e = .returned (.slice (some ⟨w.heap.size, 0, none⟩) (m + 1) (m + 1)) ∧ Blk w' w.heap.size 137 ((digs 4294967296 (m + 1) (X * 2 ^ b)).map wvn).toArray ∧ Below w.heap.size w w' := by
  have Hx := Lib.hid (show ∀ k, k < m → ∀ wr, Below w.heap.size w wr → wr.cell? ⟨gx, k, none⟩ = some (.int .u32 ((X / 4294967296 ^ k % 4294967296 : Nat) : Int)) from fun k hk wr hb => (hb.cell (p := ⟨gx, k, none⟩) hX.lt).trans (blk_dig hX hk))
  have hmk := make_u32 (m + 1) (by omega) w
  have hc1 : ((m + 1 : Nat) : Int) = (m : Int) + 1 := by omega
  rw [hc1] at hmk
  have HXl := Lib.hid hXl
  clear hX hXl hc1
  go_enter Tryd.func122, Tryd.ntmps122
  go_wp2
  go_loopw [15] (fun i wr => LeftRel w X (2 ^ b) m i wr) (fun i _ => m - (intOf i).toNat)
  case atStart =>
    refine ⟨0, Nat.zero_le _, rfl, ?_, (Below.refl _ _).alloc (Nat.le_refl _) _⟩
    rw [Nat.pow_zero, Nat.mod_one, Nat.zero_mul, digs_zero]
    have := Blk.new w 137 ((List.replicate (m + 1) 0).map wvn).toArray
    simpa using this
  case round =>
    obtain ⟨k, hk, rfl, hB, hbw⟩ := hrel
    by_cases hlt : k < m
    · have hcx := Hx.out k hlt wr hbw
      obtain ⟨x, hx⟩ : ∃ x, x = X / 4294967296 ^ k % 4294967296 := ⟨_, rfl⟩
      have hxl : x < 4294967296 := by rw [hx]; exact Nat.mod_lt _ (by omega)
      rw [← hx] at hcx
      have hb0 : 0 < 2 ^ b := Nat.pow_pos (by omega)
      have hb1 : 2 ^ b ≤ 2147483648 := Nat.le_trans (Nat.pow_le_pow_right (by omega) (show b ≤ 31 by omega)) (by decide)
      obtain ⟨t, ht⟩ : ∃ t, t = X % 4294967296 ^ k * 2 ^ b / 4294967296 ^ k := ⟨_, rfl⟩
      have htl : t < 2 ^ b := by rw [ht]; exact shl_top (by omega) hb0 X k
      have htB : t < 4294967296 := by omega
      have hcb := blk_dig hB (k := k) (by omega)
      rw [← ht, Nat.mod_eq_of_lt htB] at hcb
      have hcb2 := blk_dig hB (k := k + 1) (by omega)
      obtain ⟨y, hy⟩ : ∃ y, y = X % 4294967296 ^ k * 2 ^ b / 4294967296 ^ (k + 1) % 4294967296 := ⟨_, rfl⟩
      rw [← hy] at hcb2
      have hfb := fun j => hB.free j
      obtain ⟨p, hp⟩ : ∃ p, p = x * 2 ^ b := ⟨_, rfl⟩
      have hpl : p < 9223372036854775808 := by
        rw [hp]
        have := Nat.mul_le_mul (show x ≤ 4294967295 by omega) hb1
        omega
      have hpw : IntKind.u64.wrap ((x : Int) * 2 ^ b) = (p : Int) := by
        rw [show (x : Int) * 2 ^ b = (p : Int) by rw [hp]; simp, IntKind.wrap_u64]
        omega
      obtain ⟨q, hq⟩ : ∃ q, q = p % 4294967296 := ⟨_, rfl⟩
      obtain ⟨r, hr⟩ : ∃ r, r = p / 4294967296 := ⟨_, rfl⟩
      have hqi : (p : Int) % 4294967296 = (q : Int) := by omega
      have hri : (p : Int) / 4294967296 = (r : Int) := by omega
      have hql : q < 4294967296 := by omega
      have hrl : r < 4294967296 := by omega
      have hqz : q = 2 ^ b * (x % 2 ^ (32 - b)) := by
        rw [hq, hp, Nat.mul_comm, show (4294967296 : Nat) = 2 ^ b * 2 ^ (32 - b) by rw [← Nat.pow_add, show b + (32 - b) = 32 by omega], Nat.mul_mod_mul_left]
      have hor : bits .or .u32 (t : Int) (q : Int) = ((t + q : Nat) : Int) := by
        rw [u32_or t q htB hql]
        congr 1
        rw [Nat.or_comm, hqz, or_add _ _ _ htl]
        omega
      have htq : t + q < 4294967296 := by
        have h1 : x % 2 ^ (32 - b) < 2 ^ (32 - b) := Nat.mod_lt _ (Nat.pow_pos (by omega))
        have h2 : 2 ^ b * (x % 2 ^ (32 - b) + 1) ≤ 2 ^ b * 2 ^ (32 - b) := Nat.mul_le_mul_left _ h1
        rw [← Nat.pow_add, show b + (32 - b) = 32 by omega, Nat.mul_add, ← hqz] at h2
        omega
      have hset := shl_digs (B := 4294967296) (p := 2 ^ b) (X := X) (i := k) (m := m + 1) (by omega) hb0 (by omega) (by omega) (by rw [← ht, ← hx, ← hp, ← hq]; exact htq)
      rw [← ht, ← hx, ← hp, ← hq, ← hr] at hset
      have hst := blk_setn (blk_setn hB k (t + q)) (k + 1) r
      rw [hset, show wvn (t + q) = .int .u32 ((t : Int) + (q : Int)) by unfold wvn; congr 1, show wvn r = .int .u32 (r : Int) from rfl] at hst
      have Hst := Lib.hid hst
      have hor2 : ((t + q : Nat) : Int) = (t : Int) + (q : Int) := by omega
      rw [hor2] at hor
      clear hx ht hy hp hq hr hqz hset hst hB hor2 hb0 hb1 htl
      go_wp2
      go_roundw
      case rel => exact ⟨k + 1, by omega, by go_num, Hst.out, (hbw.setCell (Nat.le_refl _) _).setCell (Nat.le_refl _) _⟩
      case measure => simp [intOf]; omega
    · obtain rfl : k = m := by omega
      go_wp2
      go_ret
      refine ⟨rfl, ?_, hbw⟩
      rw [Nat.mod_eq_of_lt HXl.out] at hB
      exact hB
end Go.Proofs.YthmgcbpmfipfiaaDoor
