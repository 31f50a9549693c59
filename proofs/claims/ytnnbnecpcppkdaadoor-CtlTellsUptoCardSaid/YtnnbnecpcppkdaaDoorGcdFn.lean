/- nat.common, nat.limbs, nat.cut: what the greatest common divisor needs. nat.cut, nat.evens: the leading zeros of digits, and the last ones. nat.right, nat.minus: shifts and differences in place. nat.halves: the greatest common divisor by halves and differences. nat.Gcd: the greatest common divisor. Conditions: those typed. -/
import Derived.Test.YtnnbnecpcppkdaaDoorNatFn
import Derived.Shelf.Spec.TrailingZeros
import Derived.Shelf.Spec.BitsCarry
import Derived.Deep.CutBlock
namespace Go.Proofs.YtnnbnecpcppkdaaDoor
open Go.RowKit Go.Gy
set_option linter.unusedVariables false
def lvn (n : Nat) : Value := .int .u64 n
theorem digs64_get (m n j : Nat) (h : j < m) : (digs 18446744073709551616 m n)[j]? = some (n / 18446744073709551616 ^ j % 18446744073709551616) := digs_get _ _ _ _ h
theorem updN_dig {B X j v : Nat} (hB : 0 < B) (hv : v < B) (i : Nat) : updN B X j v / B ^ i % B = if i = j then v else X / B ^ i % B := by
  have h := updN_digs (m := i + j + 1) (N := X) (j := j) hB (by omega) hv
  have h1 : ((digs B (i + j + 1) X).set j v)[i]? = some (if i = j then v else X / B ^ i % B) := by
    rw [List.getElem?_set, digs_get _ _ _ _ (by omega), digs_len]
    by_cases e : j = i
    · subst e; rw [if_pos rfl, if_pos (by omega), if_pos rfl]
    · rw [if_neg e, if_neg (fun h => e h.symm)]
  rw [h, digs_get _ _ _ _ (by omega)] at h1
  exact Option.some.inj h1
/-- n cells of block g, from o on, are the digits of X -/
def Lim (w : World) (g o n X : Nat) : Prop := ∃ cs : Array Value, Blk w g 145 cs ∧ ∀ j, j < n → cs[o + j]? = some (lvn (X / 18446744073709551616 ^ j % 18446744073709551616))
section
variable {w w' : World} {g o n X : Nat}
theorem Lim.lt (h : Lim w g o n X) : g < w.heap.size := by obtain ⟨cs, h, _⟩ := h; exact h.lt
theorem Lim.cell (h : Lim w g o n X) {j : Nat} (hj : j < n) : w.cell? ⟨g, o + j, none⟩ = some (.int .u64 ((X / 18446744073709551616 ^ j % 18446744073709551616 : Nat) : Int)) := by
  obtain ⟨cs, h1, h2⟩ := h
  exact h1.cell _ _ (h2 j hj)
theorem Lim.free (h : Lim w g o n X) (i : Nat) : w.frozen? ⟨g, i, none⟩ = false := by obtain ⟨cs, h, _⟩ := h; exact h.free i
theorem Lim.drew (h : Lim w g o n X) : Lim w.drew g o n X := h
theorem Lim.drewN (h : Lim w g o n X) (k : Nat) : Lim (w.drewN k) g o n X := h
theorem Lim.set (h : Lim w g o n X) {j v : Nat} (hv : v < 18446744073709551616) (hj : j < n) : Lim (w.setCell ⟨g, o + j, none⟩ (lvn v)) g o n (updN 18446744073709551616 X j v) := by
  obtain ⟨cs, h1, h2⟩ := h
  refine ⟨_, h1.set (o + j) (lvn v), fun i hi => ?_⟩
  rw [updN_dig (by omega) hv]
  have hs := (Array.getElem?_eq_some_iff.1 (h2 j hj)).1
  rw [Array.getElem?_setIfInBounds]
  by_cases e : i = j
  · subst e
    rw [if_pos rfl, if_pos hs, if_pos rfl]
  · rw [if_neg (by omega), if_neg e]
    exact h2 i hi
theorem Lim.sub (h : Lim w g o n X) (k : Nat) (hk : k ≤ n) : Lim w g (o + k) (n - k) (X / 18446744073709551616 ^ k) := by
  obtain ⟨cs, h1, h2⟩ := h
  refine ⟨cs, h1, fun j hj => ?_⟩
  rw [Nat.div_div_eq_div_mul, ← Nat.pow_add, Nat.add_assoc]
  exact h2 (k + j) (by omega)
theorem Lim.take (h : Lim w g o n X) {m : Nat} (hm : m ≤ n) : Lim w g o m X := by
  obtain ⟨cs, h1, h2⟩ := h
  exact ⟨cs, h1, fun j hj => h2 j (by omega)⟩
theorem Lim.chg {g' : Nat} (h : Lim w g o n X) (hc : Chg g' w w') (hne : g ≠ g') : Lim w' g o n X := by
  obtain ⟨cs, h1, h2⟩ := h
  exact ⟨cs, hc.blk h1 hne, h2⟩
theorem Lim.below {B : Nat} (h : Lim w g o n X) (hb : Below B w w') (hg : g < B) : Lim w' g o n X := by
  obtain ⟨cs, h1, h2⟩ := h
  exact ⟨cs, h1.below hb hg, h2⟩
theorem Lim.eq {X' : Nat} (h : Lim w g o n X) (e : X = X') : Lim w g o n X' := e ▸ h
theorem Lim.of (hB : Blk w g 145 ((digs 18446744073709551616 n X).map lvn).toArray) : Lim w g 0 n X :=
  ⟨_, hB, fun j hj => by rw [Nat.zero_add]; simp [digs_get _ _ _ _ hj]⟩
end
set_option maxRecDepth 100000 in
set_option maxHeartbeats 1000000 in
theorem common_any (w : World) (x y : Nat) (hx : x < 18446744073709551616) (hy : y < 18446744073709551616) :
    Calls Tryd.prog 123 #[.int .u64 x, .int .u64 y] w fun e w' => e = .returned (.int .u64 ((Nat.gcd x y : Nat) : Int)) ∧ ∃ q, w' = w.drewN q := by
  go_enter Tryd.func123, Tryd.ntmps123
  go_wp2
  go_loopw [0, 1] (fun a b wr => ∃ u v q : Nat, a = .int .u64 u ∧ b = .int .u64 v ∧ u < 18446744073709551616 ∧ v < 18446744073709551616 ∧ Hid (Nat.gcd u v = Nat.gcd x y) ∧ wr = w.drewN q) (fun _ b _ => (intOf b).toNat)
  case atStart => exact ⟨x, y, 0, rfl, rfl, hx, hy, Lib.hid rfl, rfl⟩
  case round =>
    obtain ⟨u, v, q, rfl, rfl, hu, hv, HG, rfl⟩ := hrel
    by_cases hv0 : 0 < v
    · have hvi : (0 : Int) < (v : Int) := by omega
      have e5 : ((v : Int) == 0) = false := by simp; omega
      obtain ⟨r, hr⟩ : ∃ r, r = u % v := ⟨_, rfl⟩
      have hrl : r < v := by rw [hr]; exact Nat.mod_lt _ hv0
      have e2 : (u : Int).tmod (v : Int) = (r : Int) := by rw [hr]; rfl
      have e4 : (u : Int) % (v : Int) = (r : Int) := by rw [hr]; rfl
      have e6 : IntKind.u64.wrap (r : Int) = r := by rw [IntKind.wrap_u64]; omega
      have HG2 := Lib.hid (show Nat.gcd v r = Nat.gcd x y by rw [hr, gcd_step hv0, HG.out])
      clear hr
      go_wp2
      go_quiet (fail)
      go_wp2
      go_roundw
      case rel => exact ⟨v, r, _, rfl, rfl, hv, by omega, HG2, by rw [World.drewN_drewN]⟩
      case measure => simp [intOf]; omega
    · obtain rfl : v = 0 := by omega
      go_wp2
      go_ret
      exact ⟨ret_int (by rw [← HG.out, Nat.gcd_zero_right]), q, rfl⟩
theorem info_u64 : (Tryd.prog.info? 145).map (fun i => (i.zero, i.size, i.bytes)) = some (some (.int .u64 0), 1, 8) := by kernel_rfl
theorem make_u64 (n : Nat) (hn : n ≤ 17592186044416) (W : World) : (Instr.makeSlice 173 (.int .i64 (n : Int)) (.int .i64 (n : Int))).run Tryd.prog W = .ok (.slice (some ⟨W.heap.size, 0, none⟩) n n) (W.alloc (.cells ((List.replicate n 0).map lvn).toArray 145)) := by
  obtain ⟨i0, hi, hz0, hz1, hz2⟩ := info_parts info_u64
  have h := run_make (P := Tryd.prog) W 173 145 i0 (.int .u64 0) Tryd.underlying173 hi hz0 .i64 .i64 (n : Int) (n : Int) (by omega) (Int.le_refl _) (by rw [hz2]; omega) (by omega)
  rw [Int.toNat_natCast, hz1, Nat.mul_one] at h
  rw [show (Value.int .u64 0).cells = #[lvn 0] from rfl, made_reps] at h
  exact h
def LRel (w : World) (m N L : Nat) (i : Value) (wr : World) : Prop := ∃ k : Nat, k ≤ L ∧ i = .int .i64 k ∧ Blk wr w.heap.size 145 ((digs 18446744073709551616 m (N % 256 ^ k)).map lvn).toArray ∧ Below w.heap.size w wr
def LimbsPost (w : World) (N : Nat) (e : Ending) (w' : World) : Prop := ∃ G, e = .returned (.slice (some ⟨G, 0, none⟩) (llen N) (llen N)) ∧ w.heap.size ≤ G ∧ Blk w' G 145 ((digs 18446744073709551616 (llen N) N).map lvn).toArray ∧ Below w.heap.size w w'
set_option maxRecDepth 100000 in
set_option maxHeartbeats 1000000 in
theorem limbs_any (w : World) (N : Nat) (hs : (natS N).size ≤ 35184372088832) :
    Calls Tryd.prog 129 #[.string (natS N)] w (LimbsPost w N) := by
  have hwl : llen N = ((natS N).size + 7) / 8 := by rw [natS_size]; rfl
  obtain ⟨m, hm⟩ : ∃ m, m = llen N := ⟨_, rfl⟩
  rw [← hm] at hwl
  have Hm := Lib.hid hm
  clear hm
  obtain ⟨t, ht⟩ : ∃ t, t = natS N := ⟨_, rfl⟩
  rw [← ht] at hs hwl ⊢
  have Hby := Lib.hid (show ∀ k (h : k < t.size), (t[t.size - 1 - k]'(by omega)).toNat = N / 256 ^ k % 256 by subst ht; exact natS_byte N)
  have Htn := Lib.hid ht
  clear ht
  have hq : ((t.size : Int) + 7) / 8 = (m : Int) := by omega
  have hmk := make_u64 m (by omega) w
  have Hwl := Lib.hid hwl
  clear hwl
  go_enter Tryd.func129, Tryd.ntmps129
  go_wp2
  simp only [hq]
  go_loopw [12] (fun i wr => LRel w m N t.size i wr) (fun i _ => t.size - (intOf i).toNat)
  case atStart =>
    refine ⟨0, Nat.zero_le _, rfl, ?_, (Below.refl _ _).alloc (Nat.le_refl _) _⟩
    rw [Nat.pow_zero, Nat.mod_one, digs_zero]
    have := Blk.new w 145 ((List.replicate m 0).map lvn).toArray
    simpa using this
  case round =>
    obtain ⟨k, hk, rfl, hB, hb⟩ := hrel
    by_cases hlt : k < t.size
    · obtain ⟨q, hq4⟩ : ∃ q, q = k / 8 := ⟨_, rfl⟩
      obtain ⟨r, hr4⟩ : ∃ r, r = k % 8 := ⟨_, rfl⟩
      have hqm : q < m := by have := Hwl.out; omega
      have hqi : ((k : Int)) / 8 = (q : Int) := by omega
      have hri : ((k : Int)).tmod 8 = (r : Int) := by rw [Int.tmod_eq_emod_of_nonneg (by omega)]; omega
      have hr : r < 8 := by omega
      have w1 : IntKind.i64.wrap (q : Int) = q := by rw [IntKind.wrap_i64]; omega
      have w2 : IntKind.i64.wrap (r : Int) = r := by rw [IntKind.wrap_i64]; omega
      have w3 : IntKind.i64.wrap ((r : Int) * 8) = (r : Int) * 8 := by rw [IntKind.wrap_i64]; omega
      obtain ⟨d, hd⟩ : ∃ d, d = N % 256 ^ k / 18446744073709551616 ^ q % 18446744073709551616 := ⟨_, rfl⟩
      have hc := hB.cell q (.int .u64 (d : Int)) (by simp [digs64_get m (N % 256 ^ k) q hqm, hd, lvn])
      have hf := hB.free q
      obtain ⟨j, hj⟩ : ∃ j, j = t.size - 1 - k := ⟨_, rfl⟩
      have hji : (t.size : Int) - 1 - (k : Int) = (j : Int) := by omega
      have hjl : j < t.size := by omega
      have w8 : IntKind.i64.wrap (j : Int) = j := by rw [IntKind.wrap_i64]; omega
      have w9 : IntKind.i64.wrap ((t.size : Int) - 1) = (t.size : Int) - 1 := by rw [IntKind.wrap_i64]; omega
      have hx : (t[j]'hjl).toNat = N / 256 ^ k % 256 := by subst hj; exact Hby.out k hlt
      obtain ⟨c, hcc⟩ : ∃ c, c = N / 256 ^ k % 256 := ⟨_, rfl⟩
      rw [← hcc] at hx
      have hc8 : c < 256 := by rw [hcc]; exact Nat.mod_lt _ (by omega)
      have w4 : IntKind.u64.wrap (c : Int) = c := by rw [IntKind.wrap_u64]; omega
      have hkq : (256 : Nat) ^ k = 18446744073709551616 ^ q * 256 ^ r := by rw [pow_limb, ← Nat.pow_add]; congr 1; omega
      have hdr : N % 256 ^ k / 18446744073709551616 ^ q < 256 ^ r := by
        rw [Nat.div_lt_iff_lt_mul (Nat.pow_pos (by omega)), Nat.mul_comm, ← hkq]
        exact Nat.mod_lt _ (Nat.pow_pos (by omega))
      have hr3 : (256 : Nat) ^ r ≤ 72057594037927936 := Nat.le_trans (Nat.pow_le_pow_right (by omega) (show r ≤ 7 by omega)) (by decide)
      have hd2 : d = N % 256 ^ k / 18446744073709551616 ^ q := by rw [hd]; exact Nat.mod_eq_of_lt (by omega)
      have hd3 : d < 256 ^ r := by omega
      obtain ⟨z, hz2⟩ : ∃ z, z = c * 256 ^ r := ⟨_, rfl⟩
      have hzl : z < 18446744073709551616 := by
        rw [hz2]
        have : c * 256 ^ r ≤ 255 * 256 ^ r := Nat.mul_le_mul_right _ (by omega)
        omega
      have w5 : IntKind.u64.wrap ((c : Int) * 2 ^ ((r : Int) * 8).toNat) = ((z : Nat) : Int) := by
        have e : ((r : Int) * 8).toNat = 8 * r := by omega
        have e2 : ((c : Int) * 2 ^ (8 * r)) = ((c * 256 ^ r : Nat) : Int) := by
          rw [show (256 : Nat) = 2 ^ 8 from rfl, ← Nat.pow_mul]
          simp
        rw [e, e2, ← hz2, IntKind.wrap_u64]
        omega
      have w6 : bits .or .u64 (d : Int) (z : Int) = ((d + z : Nat) : Int) := by
        rw [u64_or d z (by omega) hzl]
        congr 1
        rw [hz2, Nat.mul_comm, show (256 : Nat) ^ r = 2 ^ (8 * r) by rw [Nat.pow_mul], Nat.or_comm, or_add _ _ _ (by rw [Nat.pow_mul]; exact hd3)]
        omega
      have hdz : d + z < 18446744073709551616 := by
        have h1 : c * 256 ^ r ≤ 255 * 256 ^ r := Nat.mul_le_mul_right _ (by omega)
        omega
      have hset := digs_upd (B := 18446744073709551616) (m := m) (N := N % 256 ^ k) (N' := N % 256 ^ (k + 1)) (j := q) (v := d + z) (by omega) hqm hdz (by
        rw [← hd, mod_succ, ← hcc, hkq, hz2]
        grind)
      have Hst := Lib.hid (blk_setn hB q (d + z))
      rw [hset] at Hst
      have Hcc := Lib.hid hcc
      clear hB hset hz2 hdz hd2 hd hkq hdr hq4 hr4
      have Hj := Lib.hid hj
      clear hj hcc
      go_wp2
      have hb2 : Below w.heap.size w wr.drew := hb.drew
      have hc2 : wr.drew.cell? ⟨w.heap.size, q, none⟩ = some (.int .u64 (d : Int)) := hc
      have hf2 : wr.drew.frozen? ⟨w.heap.size, q, none⟩ = false := hf
      have Hst2 : Hid (Blk (wr.drew.setCell ⟨w.heap.size, q, none⟩ (lvn (d + z))) w.heap.size 145 ((digs 18446744073709551616 m (N % 256 ^ (k + 1))).map lvn).toArray) := Lib.hid (Hst.out)
      go_still_tail 19, (by kernel_rfl)
      change wpList _ _ _ _ _ wr.drew
      generalize wr.drew = w2 at hb2 hc2 hf2 Hst2 ⊢
      clear hc hf hb
      go_wp2
      go_roundw
      case rel => exact ⟨k + 1, by omega, by go_num, Hst2.out, hb2.setCell (Nat.le_refl _) _⟩
      case measure => simp [intOf]; omega
    · obtain rfl : k = t.size := by omega
      have Hl := Lib.hid (show N % 256 ^ t.size = N from by
        apply Nat.mod_eq_of_lt
        rw [Htn.out, natS_size, ← natL_len_le]
        exact Nat.le_refl _)
      go_wp2
      go_ret
      refine ⟨w.heap.size, by rw [← Hm.out]; rfl, Nat.le_refl _, ?_, hb⟩
      rw [Hl.out] at hB
      rw [← Hm.out]
      exact hB
end Go.Proofs.YtnnbnecpcppkdaaDoor
namespace Go.Proofs.YtnnbnecpcppkdaaDoor
open Go.RowKit Go.Gy
set_option linter.unusedVariables false
/-- the library's table is as it was laid -/
def Tab (w : World) : Prop := TabAt 1 Lib.deBruijn64tab w
theorem Tab.below {w w' : World} {B : Nat} (h : Tab w) (hb : Below B w w') (hB : 1 < B) : Tab w' := fun j hj => (hb.cell (p := ⟨1, j, none⟩) hB).trans (h j hj)
theorem Tab.chg {w w' : World} {g : Nat} (h : Tab w) (hc : Chg g w w') (hg : 1 ≠ g) (hs : 1 < w.heap.size) : Tab w' := fun j hj => (hc.cell hs hg).trans (h j hj)
set_option maxRecDepth 100000 in
set_option maxHeartbeats 1000000 in
theorem tz_any (w : World) (x : Nat) (hx : x < 18446744073709551616) (hx0 : x ≠ 0) (hT : Tab w) :
    Calls Tryd.prog 139 #[.int .u64 x] w fun e w' => e = .returned (.int .i64 (Lib.ctz 64 x)) ∧ w = w' := by
  obtain ⟨hlow, hk⟩ := Lib.lowest_bit 64 x hx0 hx
  obtain ⟨hi, htab⟩ := Lib.deBruijn64_at _ hk
  have hcell := hT _ hi
  rw [htab] at hcell
  have key := tz64_key x _ hx hx0 hlow
  obtain ⟨idx, hidx⟩ : ∃ idx, idx = 2 ^ Lib.ctz 64 x * 285870213051353865 % 18446744073709551616 / 288230376151711744 := ⟨_, rfl⟩
  rw [← hidx] at hcell hi key
  obtain ⟨k, hkk⟩ : ∃ k, k = Lib.ctz 64 x := ⟨_, rfl⟩
  rw [← hkk] at hcell hk ⊢
  have hx0i : ((x : Int) == 0) = false := by simp; omega
  clear hlow htab hidx hkk hT
  go_enter Tryd.func139, Tryd.ntmps139
  go_wp2_with (simp only [key])
  go_ret
  exact ⟨rfl, rfl⟩
/-- x is 2^e times an odd number -/
def OddAt (x e : Nat) : Prop := ∃ z, x = 2 ^ e * z ∧ z % 2 = 1
theorem ctz_odd {x : Nat} (hx : x < 18446744073709551616) (hx0 : x ≠ 0) : OddAt x (Lib.ctz 64 x) ∧ Lib.ctz 64 x < 64 := by
  obtain ⟨m, h1, h2⟩ := Lib.ctzFrom_spec 64 x (by omega) hx
  have e : Lib.ctz 64 x = Lib.ctzFrom 64 x := by unfold Lib.ctz; rw [if_neg hx0]
  rw [e]
  exact ⟨⟨2 * m + 1, h1, by omega⟩, h2⟩
theorem limb_odd {X k t : Nat} (h0 : X % 18446744073709551616 ^ k = 0) (h : OddAt (X / 18446744073709551616 ^ k % 18446744073709551616) t) (ht : t < 64) : OddAt X (64 * k + t) := by
  obtain ⟨z, h1, h2⟩ := h
  have e1 := Nat.mod_add_div X (18446744073709551616 ^ k)
  have e2 := Nat.mod_add_div (X / 18446744073709551616 ^ k) 18446744073709551616
  rw [h1] at e2
  rw [h0, Nat.zero_add] at e1
  refine ⟨z + 2 ^ (64 - t) * (X / 18446744073709551616 ^ k / 18446744073709551616), ?_, ?_⟩
  · rw [Nat.pow_add, Nat.mul_assoc, Nat.mul_add, ← Nat.mul_assoc (2 ^ t), ← Nat.pow_add, show t + (64 - t) = 64 by omega]
    rw [show (2 : Nat) ^ 64 = 18446744073709551616 from rfl, e2, Nat.pow_mul]
    exact e1.symm
  · obtain ⟨s, hs⟩ : ∃ s, 64 - t = s + 1 := ⟨63 - t, by omega⟩
    rw [hs, Nat.pow_succ, Nat.mul_comm _ 2, Nat.mul_assoc, Nat.add_mul_mod_self_left]
    exact h2
set_option maxRecDepth 100000 in
set_option maxHeartbeats 1000000 in
theorem cut_any (w : World) (g o n c X : Nat) (hL : Lim w g o n X) (hX : X < 18446744073709551616 ^ n) (hc : n ≤ c) (hn : n ≤ 17592186044416) :
    Calls Tryd.prog 140 #[.slice (some ⟨g, o, none⟩) n c] w fun e w' => e = .returned (.slice (some ⟨g, o, none⟩) (llen X) c) ∧ ∃ q, w' = w.drewN q := by
  have HL := Lib.hid hL
  have Hst := Lib.hid hX
  clear hL hX
  go_enter Tryd.func140, Tryd.ntmps140
  go_wp2
  go_loopw [0] (fun v wr => ∃ m q : Nat, v = .slice (some ⟨g, o, none⟩) m c ∧ m ≤ n ∧ Hid (X < 18446744073709551616 ^ m) ∧ wr = w.drewN q) (fun v _ => match v with | .slice _ m _ => m | _ => 0)
  case atStart => exact ⟨n, 0, rfl, Nat.le_refl _, Hst, rfl⟩
  case round =>
    obtain ⟨m, q, rfl, hm, HX, rfl⟩ := hrel
    by_cases h0 : 0 < m
    · obtain ⟨m1, rfl⟩ : ∃ m1, m = m1 + 1 := ⟨m - 1, by omega⟩
      have hcl := (HL.out.drewN q).cell (j := m1) (by omega)
      obtain ⟨x, hx⟩ : ∃ x, x = X / 18446744073709551616 ^ m1 % 18446744073709551616 := ⟨_, rfl⟩
      rw [← hx] at hcl
      have hm1 : ((m1 + 1 : Nat) : Int) - 1 = (m1 : Int) := by omega
      by_cases hx0 : x = 0
      · have hb : ((x : Int) == 0) = true := by rw [hx0]; rfl
        have HX2 := Lib.hid (top_zero (by omega) HX.out (by rw [← hx, hx0]))
        clear hx hx0
        go_wp2
        go_roundw
        case rel => exact ⟨m1, _, rfl, by omega, HX2, rfl⟩
        case measure => simp
      · have hb : ((x : Int) == 0) = false := by simp; omega
        have Hl := Lib.hid (show m1 + 1 = llen X by
          have h1 := (llen_le X (m1 + 1)).mpr HX.out
          have h2 := top_pos (B := 18446744073709551616) (m := m1) (X := X) (by omega) (by rw [← hx]; exact hx0)
          have h3 := llen_le X m1
          omega)
        clear hx hx0
        go_wp2
        go_ret
        exact ⟨by rw [← Hl.out]; rfl, _, rfl⟩
    · obtain rfl : m = 0 := by omega
      have Hl := Lib.hid (show 0 = llen X by
        have h1 := (llen_le X 0).mpr HX.out
        omega)
      go_wp2
      go_ret
      exact ⟨by rw [← Hl.out]; rfl, _, rfl⟩
set_option maxRecDepth 100000 in
set_option maxHeartbeats 1000000 in
theorem evens_any (w : World) (g o n c X : Nat) (hL : Lim w g o n X) (hX : X < 18446744073709551616 ^ n) (hX0 : X ≠ 0) (hc : n ≤ c) (hn : n ≤ 17592186044416) (hT : Tab w) :
    Calls Tryd.prog 130 #[.slice (some ⟨g, o, none⟩) n c] w fun e w' => ∃ k : Nat, e = .returned (.int .i64 (k : Int)) ∧ OddAt X k ∧ w = w' := by
  have HL := Lib.hid hL
  have HX := Lib.hid hX
  have HX0 := Lib.hid hX0
  have HT := Lib.hid hT
  have h0n : 0 < n := by
    rcases Nat.eq_zero_or_pos n with h | h
    · subst h; rw [Nat.pow_zero] at hX; omega
    · exact h
  clear hL hX hX0 hT
  go_enter Tryd.func130, Tryd.ntmps130
  go_wp2
  go_loop [3] (fun i => ∃ k : Nat, k < n ∧ i = .int .i64 k ∧ Hid (X % 18446744073709551616 ^ k = 0)) (fun i => n - (intOf i).toNat)
  case atStart => exact ⟨0, h0n, rfl, Lib.hid (Nat.mod_one _)⟩
  case round =>
    obtain ⟨k, hk, rfl, HM⟩ := hrel
    have hcl := HL.out.cell hk
    obtain ⟨x, hx⟩ : ∃ x, x = X / 18446744073709551616 ^ k % 18446744073709551616 := ⟨_, rfl⟩
    have hxl : x < 18446744073709551616 := by rw [hx]; exact Nat.mod_lt _ (by omega)
    have hmod := mod_succ 18446744073709551616 X k
    rw [← hx] at hcl hmod
    by_cases hx0 : x = 0
    · have hb : ((x : Int) == 0) = true := by rw [hx0]; rfl
      have hm0 : X % 18446744073709551616 ^ (k + 1) = 0 := by rw [hmod, HM.out, hx0]; rfl
      have hk1 : k + 1 < n := by
        rcases Nat.lt_or_ge (k + 1) n with h | h
        · exact h
        · rw [show k + 1 = n by omega, Nat.mod_eq_of_lt HX.out] at hm0
          exact absurd hm0 HX0.out
      have HM2 := Lib.hid hm0
      clear hx hx0 hmod hm0
      go_wp2
      go_round
      case rel => exact ⟨k + 1, hk1, by go_num, HM2⟩
      case measure => simp [intOf]; omega
    · have hb : ((x : Int) == 0) = false := by simp; omega
      have HZ := Lib.hid (tz_any w x hxl hx0 HT.out)
      obtain ⟨ho, ht⟩ := ctz_odd hxl hx0
      obtain ⟨t, htt⟩ : ∃ t, t = Lib.ctz 64 x := ⟨_, rfl⟩
      rw [← htt] at HZ ho ht
      have Ho := Lib.hid (limb_odd HM.out (by rw [← hx]; exact ho) ht)
      clear hx hx0 hmod ho htt
      go_wp2_with fail
      refine HZ.out.mono ?_
      rintro e w' ⟨rfl, rfl⟩
      go_wp2
      go_ret
      exact ⟨64 * k + t, ret_int (by omega), Ho.out, rfl⟩
theorem llen_lt_of {X Y : Nat} (h : llen X < llen Y) : X < Y := by
  have h1 := llen_lt X
  have h2 := llen_le Y (llen X)
  have h3 : ¬ Y < 18446744073709551616 ^ llen X := fun hh => by have := h2.mpr hh; omega
  omega
def LBRel (X Y n : Nat) (i : Value) : Prop := ∃ K : Nat, K ≤ n ∧ ((K = 0 ∧ i = .int .i64 (-1)) ∨ ∃ k : Nat, K = k + 1 ∧ i = .int .i64 k) ∧ Hid (X / 18446744073709551616 ^ K = Y / 18446744073709551616 ^ K)
set_option maxRecDepth 100000 in
set_option maxHeartbeats 1000000 in
theorem below_limbs (w : World) (g o c X g' o' c' Y : Nat) (hX : Lim w g o (llen X) X) (hY : Lim w g' o' (llen Y) Y) (hc : llen X ≤ c) (hc' : llen Y ≤ c') (hn : llen X ≤ 17592186044416) (hn' : llen Y ≤ 17592186044416) :
    Calls Tryd.prog 132 #[.slice (some ⟨g, o, none⟩) (llen X) c, .slice (some ⟨g', o', none⟩) (llen Y) c'] w fun e w' => e = .returned (.bool (decide (X < Y))) ∧ ∃ q, w' = w.drewN q := by
  obtain ⟨m, hm⟩ : ∃ m, m = llen X := ⟨_, rfl⟩
  obtain ⟨n, hnn⟩ : ∃ n, n = llen Y := ⟨_, rfl⟩
  have hXl := llen_lt X
  have hYl := llen_lt Y
  have hlt := @llen_lt_of X Y
  have hgt := @llen_lt_of Y X
  rw [← hm] at hX hc hn hXl hlt hgt ⊢
  rw [← hnn] at hY hc' hn' hYl hlt hgt ⊢
  by_cases hmn : m = n
  · subst hmn
    have HX := Lib.hid hX
    have HY := Lib.hid hY
    have Hst := Lib.hid (show LBRel X Y m (.int .i64 ((m : Int) - 1)) from ⟨m, Nat.le_refl _, idx_or m, Lib.hid (by rw [Nat.div_eq_of_lt hXl, Nat.div_eq_of_lt hYl])⟩)
    clear hm hnn hXl hYl hlt hgt hX hY
    go_enter Tryd.func132, Tryd.ntmps132
    go_wp2
    go_loopw [5] (fun i wr => LBRel X Y m i ∧ ∃ q, wr = w.drewN q) (fun i _ => (intOf i + 1).toNat)
    case atStart => exact ⟨Hst.out, 0, rfl⟩
    case round =>
      obtain ⟨⟨K, hK, hi, HE⟩, q, rfl⟩ := hrel
      rcases hi with ⟨rfl, rfl⟩ | ⟨k, rfl, rfl⟩
      · have Hd := Lib.hid (show decide (X < Y) = false by
          have := HE.out
          rw [Nat.pow_zero, Nat.div_one, Nat.div_one] at this
          rw [this]
          simp)
        go_wp2
        go_ret
        exact ⟨ret_bool Hd.out.symm, q, rfl⟩
      · have hkm : k < m := by omega
        have hkmi : (k : Int) < (m : Int) := by omega
        have cx := HX.out.cell (j := k) (by omega)
        have cy := HY.out.cell (j := k) (by omega)
        obtain ⟨x, hx⟩ : ∃ x, x = X / 18446744073709551616 ^ k % 18446744073709551616 := ⟨_, rfl⟩
        obtain ⟨y, hy⟩ : ∃ y, y = Y / 18446744073709551616 ^ k % 18446744073709551616 := ⟨_, rfl⟩
        rw [← hx] at cx
        rw [← hy] at cy
        by_cases hxy : x = y
        · have hb : ((x : Int) != (y : Int)) = false := by simp; omega
          have HE2 := Lib.hid (dig_same HE.out (by rw [← hx, ← hy]; exact hxy))
          clear hx hy
          subst hxy
          go_wp2
          go_quiet (fail)
          go_wp2
          go_roundw
          case rel => exact ⟨⟨k, by omega, idx_or k, HE2⟩, q + nq, rfl⟩
          case measure => simp [intOf]
        · have hb : ((x : Int) != (y : Int)) = true := by simp; omega
          have Hd := Lib.hid (show decide (x < y) = decide (X < Y) by
            rw [decide_eq_decide]
            constructor
            · intro h; exact dig_cmp (by omega) HE.out (by rw [← hx, ← hy]; exact h)
            · intro h
              rcases Nat.lt_or_ge x y with h1 | h1
              · exact h1
              · have := dig_cmp (B := 18446744073709551616) (X := Y) (Y := X) (i := k) (by omega) HE.out.symm (by rw [← hx, ← hy]; omega)
                omega)
          clear hx hy hxy
          go_wp2
          go_quiet (fail)
          go_wp2
          go_quiet (fail)
          go_wp2
          go_ret
          exact ⟨ret_bool (by rw [← Hd.out]), _, by rw [World.drewN_drewN, World.drewN_drewN]⟩
  · have Hd := Lib.hid (show decide (m < n) = decide (X < Y) by
      rw [decide_eq_decide]
      constructor
      · exact hlt
      · intro h
        rcases Nat.lt_or_ge m n with h1 | h1
        · exact h1
        · have := hgt (by omega)
          omega)
    have hb : ((m : Int) != (n : Int)) = true := by simp; omega
    clear hm hnn hXl hYl hlt hgt hX hY hmn
    go_enter Tryd.func132, Tryd.ntmps132
    go_wp2
    go_ret
    exact ⟨ret_bool (by rw [← Hd.out]), 0, rfl⟩
end Go.Proofs.YtnnbnecpcppkdaaDoor
namespace Go.Proofs.YtnnbnecpcppkdaaDoor
open Go.RowKit Go.Gy
set_option linter.unusedVariables false
/-- the stand-in of math/bits.Sub64 -/
theorem sub64_run (x y b : Nat) (hb : b ≤ 1) (w : World) :
    (callFunc 141 #[.int .u64 x, .int .u64 y, .int .u64 b]).run Tryd.prog w =
      .ok (.value (.tuple #[.int .u64 (((x + 18446744073709551616 - y - b) % 18446744073709551616 : Nat) : Int), .int .u64 ((if x < y + b then 1 else 0 : Nat) : Int)])) w := by
  rw [run_callFunc_extern Tryd.func141 (by kernel_rfl) (by kernel_rfl) (by kernel_rfl) (e := sub64Entry) (by kernel_rfl), run_sub64 x y b hb]
  rfl
theorem shr64 {U b i : Nat} (hb : b < 64) : U / 2 ^ b / 18446744073709551616 ^ i % 18446744073709551616 = U / 18446744073709551616 ^ i % 18446744073709551616 / 2 ^ b + U / 18446744073709551616 ^ (i + 1) % 18446744073709551616 * 2 ^ (64 - b) % 18446744073709551616 := by
  have h := shr_dig (p := 2 ^ b) (q := 2 ^ (64 - b)) (U := U) (i := i) (Nat.pow_pos (by omega)) (Nat.pow_pos (by omega))
  rwa [← Nat.pow_add, show b + (64 - b) = 64 by omega] at h
def MinRel (w : World) (gx ox m X Y : Nat) (c i : Value) (wr : World) : Prop := ∃ k : Nat, k ≤ m ∧ i = .int .i64 k ∧ c = .int .u64 ((subB 18446744073709551616 X Y k : Nat) : Int) ∧ Lim wr gx ox m (subN 18446744073709551616 X Y k) ∧ Chg gx w wr
theorem Lim.digs {w : World} {g o n X X' j v : Nat} (h : Lim (w.setCell ⟨g, o + j, none⟩ (lvn v)) g o n (updN 18446744073709551616 X j v)) (hj : j < n) (hv : v < 18446744073709551616) (he : (digs 18446744073709551616 n X).set j v = digs 18446744073709551616 n X') : Lim (w.setCell ⟨g, o + j, none⟩ (lvn v)) g o n X' := by
  obtain ⟨cs, h1, h2⟩ := h
  refine ⟨cs, h1, fun i hi => ?_⟩
  rw [h2 i hi]
  rw [updN_digs (by omega) hj hv] at he
  have := congrArg (fun l => l[i]?) he
  simp only [digs64_get _ _ _ hi] at this
  injection this with this
  rw [this]
set_option maxRecDepth 100000 in
set_option maxHeartbeats 2000000 in
theorem minus_any (w : World) (gx ox cx gy oy cy m n X Y : Nat) (hne : gy ≠ gx) (hnm : n ≤ m) (hm : m ≤ 17592186044416) (hcx : m ≤ cx) (hX : Lim w gx ox m X) (hY : Lim w gy oy n Y) (hXl : X < 18446744073709551616 ^ m) (hYl : Y < 18446744073709551616 ^ n) (hle : Y ≤ X) :
    Calls Tryd.prog 133 #[.slice (some ⟨gx, ox, none⟩) m cx, .slice (some ⟨gy, oy, none⟩) n cy] w fun e w' => e = .returned (.slice (some ⟨gx, ox, none⟩) (llen (X - Y)) cx) ∧ Lim w' gx ox (llen (X - Y)) (X - Y) ∧ Chg gx w w' := by
  have Hy := Lib.hid (show ∀ k, k < n → ∀ wr, Chg gx w wr → wr.cell? ⟨gy, oy + k, none⟩ = some (.int .u64 ((Y / 18446744073709551616 ^ k % 18446744073709551616 : Nat) : Int)) from fun k hk wr hb => (hb.cell hY.lt hne).trans (hY.cell hk))
  have HYl := Lib.hid hYl
  have hlt : X - Y < 18446744073709551616 ^ m := by omega
  have Hend := Lib.hid (subN_end (B := 18446744073709551616) (by omega) hXl (Nat.lt_of_lt_of_le hYl (Nat.pow_le_pow_right (by omega) hnm)) hle)
  have Hlt := Lib.hid hlt
  have Hll := Lib.hid (show llen (X - Y) ≤ m from (llen_le _ _).mpr hlt)
  have Hst := Lib.hid (show MinRel w gx ox m X Y (.int .u64 0) (.int .i64 0) w from ⟨0, Nat.zero_le _, rfl, by rw [subB_zero]; rfl, by rw [subN_zero]; exact hX, Chg.refl _ _⟩)
  clear hX hY hYl hlt hXl hle
  go_enter Tryd.func133, Tryd.ntmps133
  go_wp2
  go_loopw [5, 10] (fun c i wr => MinRel w gx ox m X Y c i wr) (fun _ i _ => m - (intOf i).toNat)
  case atStart => exact Hst.out
  case round =>
    obtain ⟨k, hk, rfl, rfl, hB, hb3⟩ := hrel
    by_cases hlt : k < m
    · obtain ⟨x, hx⟩ : ∃ x, x = X / 18446744073709551616 ^ k % 18446744073709551616 := ⟨_, rfl⟩
      obtain ⟨y, hy⟩ : ∃ y, y = Y / 18446744073709551616 ^ k % 18446744073709551616 := ⟨_, rfl⟩
      obtain ⟨c, hc⟩ : ∃ c, c = subB 18446744073709551616 X Y k := ⟨_, rfl⟩
      have hxl : x < 18446744073709551616 := by rw [hx]; exact Nat.mod_lt _ (by omega)
      have hyl : y < 18446744073709551616 := by rw [hy]; exact Nat.mod_lt _ (by omega)
      have hcl : c ≤ 1 := by rw [hc]; exact subB_le _ X Y k
      have hck := hB.cell hlt
      rw [subN_dig (by omega), ← hx] at hck
      have hset := subN_digs (B := 18446744073709551616) (by omega) X Y k m hlt
      have hcar := subB_succ (B := 18446744073709551616) (by omega) X Y k
      rw [← hx, ← hy, ← hc] at hset hcar
      have hfz := hB.free (ox + k)
      have hst := (hB.set (j := k) (v := (x + 18446744073709551616 - y - c) % 18446744073709551616) (Nat.mod_lt _ (by omega)) hlt).digs hlt (Nat.mod_lt _ (by omega)) hset
      obtain ⟨z, hz⟩ : ∃ z, z = (x + 18446744073709551616 - y - c) % 18446744073709551616 := ⟨_, rfl⟩
      have hzl : z < 18446744073709551616 := by rw [hz]; exact Nat.mod_lt _ (by omega)
      obtain ⟨cb, hcb⟩ : ∃ cb, cb = (if x < y + c then 1 else 0) := ⟨_, rfl⟩
      have hrun := fun w => sub64_run x y c hcl w
      rw [← hz, ← hcb] at hrun
      rw [← hz, show lvn z = Value.int .u64 (z : Int) from rfl] at hst
      rw [← hcb] at hcar
      have HP := Lib.hid (show MinRel w gx ox m X Y (.int .u64 (cb : Int)) (.int .i64 ((k : Int) + 1)) (wr.setCell ⟨gx, ox + k, none⟩ (.int .u64 (z : Int))) from ⟨k + 1, by omega, by go_num, by rw [hcar], hst, hb3.set _ _⟩)
      rw [← hc]
      by_cases hky : k < n
      · have hcy := Hy.out k hky wr hb3
        rw [← hy] at hcy
        clear hx hy hc hset hst hB hcar hz hcb
        go_wp2_with (simp only [hrun])
        go_roundw
        case rel => exact HP.out
        case measure => simp [intOf]; omega
      · have hy0 : y = 0 := by
          rw [hy, Nat.div_eq_of_lt (Nat.lt_of_lt_of_le HYl.out (Nat.pow_le_pow_right (by omega) (by omega)))]
        rw [hy0] at hrun
        have hz0 : ((0 : Nat) : Int) = 0 := rfl
        rw [hz0] at hrun
        clear hx hy hc hset hst hB hcar hz hcb hy0 hyl hz0
        go_wp2_with (simp only [hrun])
        go_roundw
        case rel => exact HP.out
        case measure => simp [intOf]; omega
    · obtain rfl : k = m := by omega
      rw [Hend.out] at hB
      have HC := Lib.hid (cut_any wr gx ox k cx (X - Y) hB Hlt.out hcx hm)
      have HB := Lib.hid hB
      obtain ⟨r, hr⟩ : ∃ r, r = llen (X - Y) := ⟨_, rfl⟩
      rw [← hr] at HC
      have Hr := Lib.hid hr
      clear hB hr
      go_wp2_with fail
      refine HC.out.mono ?_
      rintro e w' ⟨rfl, q, rfl⟩
      go_wp2
      go_ret
      exact ⟨by rw [← Hr.out]; rfl, (HB.out.take Hll.out).drewN q, ⟨⟨hb3.1.os, hb3.1.tape, hb3.1.output, hb3.1.size, hb3.1.block⟩, hb3.2⟩⟩
def RightRel (w : World) (g o n X r : Nat) (i : Value) (wr : World) : Prop := ∃ k : Nat, k ≤ n ∧ i = .int .i64 k ∧ Lim wr g o n (shrN 18446744073709551616 X (2 ^ r) k) ∧ Chg g w wr
def RightPost (w : World) (g Z : Nat) (e : Ending) (w' : World) : Prop := ∃ o c, e = .returned (.slice (some ⟨g, o, none⟩) (llen Z) c) ∧ llen Z ≤ c ∧ Lim w' g o (llen Z) Z ∧ Chg g w w'
theorem Chg.drewN {g : Nat} {w w' : World} (h : Chg g w w') (q : Nat) : Chg g w (w'.drewN q) := ⟨⟨h.1.os, h.1.tape, h.1.output, h.1.size, h.1.block⟩, h.2⟩
set_option maxRecDepth 100000 in
set_option maxHeartbeats 2000000 in
theorem right_any (w : World) (g o n c X b : Nat) (hL : Lim w g o n X) (hX : X < 18446744073709551616 ^ n) (hc : n ≤ c) (hn : n ≤ 17592186044416) (hb : 2 ^ b ≤ X) :
    Calls Tryd.prog 131 #[.slice (some ⟨g, o, none⟩) n c, .int .i64 b] w (RightPost w g (X / 2 ^ b)) := by
  obtain ⟨k, hk⟩ : ∃ k, k = b / 64 := ⟨_, rfl⟩
  obtain ⟨r, hr⟩ : ∃ r, r = b % 64 := ⟨_, rfl⟩
  have hbk : b = 64 * k + r := by omega
  have hkn : k < n := by
    have h1 : 2 ^ b < 2 ^ (64 * n) := by
      rw [Nat.pow_mul]
      exact Nat.lt_of_le_of_lt hb hX
    have h2 := (Nat.pow_lt_pow_iff_right (show 1 < 2 by omega)).mp h1
    omega
  have hZ : X / 18446744073709551616 ^ k / 2 ^ r = X / 2 ^ b := by
    rw [Nat.div_div_eq_div_mul, hbk, Nat.pow_add, Nat.pow_mul]
  obtain ⟨X1, hX1⟩ : ∃ X1, X1 = X / 18446744073709551616 ^ k := ⟨_, rfl⟩
  have hX1l : X1 < 18446744073709551616 ^ (n - k) := by
    rw [hX1, Nat.div_lt_iff_lt_mul (Nat.pow_pos (by omega)), ← Nat.pow_add, show n - k + k = n by omega]
    exact hX
  have hL1 := hL.sub k (by omega)
  rw [← hX1] at hL1 hZ
  rw [← hZ]
  have hki : (b : Int) / 64 = (k : Int) := by omega
  have hri : (b : Int) % 64 = (r : Int) := by omega
  have hrt : (b : Int).tmod 64 = (r : Int) := by rw [Int.tmod_eq_emod_of_nonneg (by omega)]; omega
  have hr64 : r < 64 := by omega
  obtain ⟨n1, hn1⟩ : ∃ n1, n1 = n - k := ⟨_, rfl⟩
  obtain ⟨o1, ho1⟩ : ∃ o1, o1 = o + k := ⟨_, rfl⟩
  obtain ⟨c1, hc1⟩ : ∃ c1, c1 = c - k := ⟨_, rfl⟩
  rw [← hn1] at hX1l hL1
  rw [← ho1] at hL1
  have hn1c : n1 ≤ c1 := by omega
  have hn1l : n1 ≤ 17592186044416 := by omega
  have hkc : k < c := by omega
  have HX1 := Lib.hid hX1l
  have HL1 := Lib.hid hL1
  have Hn1 := Lib.hid hn1
  have Ho1 := Lib.hid ho1
  have Hc1 := Lib.hid hc1
  clear hL hX hb hk hr hbk hZ hX1 hX1l hL1 hn1 ho1 hc1
  have hr0 : (0 < r) ∨ r = 0 := by omega
  have hn1' : n - k = n1 := Hn1.out.symm
  have ho1' : o + k = o1 := Ho1.out.symm
  have hc1' : c - k = c1 := Hc1.out.symm
  rcases hr0 with hr0 | hr0
  · have hr0i : (0 : Int) < (r : Int) := by omega
    have Hst := Lib.hid (show RightRel w g o1 n1 X1 r (.int .i64 0) w from ⟨0, Nat.zero_le _, rfl, by rw [shrN_zero]; exact HL1.out, Chg.refl _ _⟩)
    go_enter Tryd.func131, Tryd.ntmps131
    go_wp2
    go_loopw [16] (fun i wr => RightRel w g o1 n1 X1 r i wr) (fun i _ => n1 - (intOf i).toNat)
    case atStart => exact Hst.out
    case round =>
      obtain ⟨i, hi, rfl, hB, hch⟩ := hrel
      by_cases hlt : i < n1
      · obtain ⟨x, hx⟩ : ∃ x, x = X1 / 18446744073709551616 ^ i % 18446744073709551616 := ⟨_, rfl⟩
        have hxl : x < 18446744073709551616 := by rw [hx]; exact Nat.mod_lt _ (by omega)
        have hcx := hB.cell hlt
        rw [shrN_dig (by omega), ← hx] at hcx
        have hfx := hB.free (o1 + i)
        obtain ⟨x1, hx1⟩ : ∃ x1, x1 = x / 2 ^ r := ⟨_, rfl⟩
        have hx1i : (x : Int) / 2 ^ r = (x1 : Int) := by rw [hx1]; simp
        have hx1B : x1 < 18446744073709551616 := by rw [hx1]; exact Nat.lt_of_le_of_lt (Nat.div_le_self _ _) hxl
        have hdig := shr64 (U := X1) (i := i) hr64
        rw [← hx, ← hx1] at hdig
        have hset := shrN_digs (B := 18446744073709551616) (U := X1) (p := 2 ^ r) (i := i) (m := n1) (by omega) hlt
        by_cases hi1 : i + 1 < n1
        · obtain ⟨y, hy⟩ : ∃ y, y = X1 / 18446744073709551616 ^ (i + 1) % 18446744073709551616 := ⟨_, rfl⟩
          have hyl : y < 18446744073709551616 := by rw [hy]; exact Nat.mod_lt _ (by omega)
          have hcy := hB.cell hi1
          rw [shrN_next (by omega), ← hy] at hcy
          rw [← hy] at hdig
          obtain ⟨q, hq⟩ : ∃ q, q = 64 - r := ⟨_, rfl⟩
          have hqi : (64 : Int) - (r : Int) = (q : Int) := by omega
          have hql : q < 64 := by omega
          rw [← hq] at hdig
          obtain ⟨z, hz⟩ : ∃ z, z = y * 2 ^ q % 18446744073709551616 := ⟨_, rfl⟩
          have hzl : z < 18446744073709551616 := by rw [hz]; exact Nat.mod_lt _ (by omega)
          rw [← hz] at hdig
          have hx1l : x1 < 2 ^ q := by
            rw [hx1, Nat.div_lt_iff_lt_mul (Nat.pow_pos (by omega)), ← Nat.pow_add, show q + r = 64 by omega]
            exact hxl
          have hzc : z = 2 ^ q * (y % 2 ^ r) := by
            rw [hz, Nat.mul_comm, show (18446744073709551616 : Nat) = 2 ^ q * 2 ^ r by rw [← Nat.pow_add, show q + r = 64 by omega], Nat.mul_mod_mul_left]
          have hor : bits .or .u64 (x1 : Int) (z : Int) = ((x1 + z : Nat) : Int) := by
            rw [u64_or x1 z hx1B hzl]
            congr 1
            rw [Nat.or_comm, hzc, or_add _ _ _ hx1l]
            omega
          have hxz : x1 + z < 18446744073709551616 := by rw [← hdig]; exact Nat.mod_lt _ (by omega)
          have w1 : IntKind.u64.wrap ((y : Int) * 2 ^ q) = (z : Int) := by
            rw [IntKind.wrap_u64, hz]
            simp
          have w4 : IntKind.i64.wrap (q : Int) = q := by rw [IntKind.wrap_i64]; omega
          obtain ⟨i2, hi2⟩ : ∃ i2, i2 = i + 1 := ⟨_, rfl⟩
          have w5 : IntKind.i64.wrap (i2 : Int) = (i2 : Int) := by rw [IntKind.wrap_i64]; omega
          have w6 : (i : Int) + 1 = (i2 : Int) := by omega
          have w7 : i2 < n1 := by omega
          have w7' : (i2 : Int) < (n1 : Int) := by omega
          rw [hdig] at hset
          rw [← hi2] at hcy
          have hB8 := hB.set (j := i) (v := x1) hx1B hlt
          rw [show lvn x1 = Value.int .u64 (x1 : Int) from rfl] at hB8
          have hch8 := hch.set (o1 + i) (.int .u64 (x1 : Int))
          have Hset := Lib.hid hset
          have HB8 := Lib.hid hB8
          have Hch8 := Lib.hid hch8
          have hcy8 : (wr.setCell ⟨g, o1 + i, none⟩ (.int .u64 (x1 : Int))).cell? ⟨g, o1 + i2, none⟩ = some (.int .u64 (y : Int)) := by
            exact (World.cell?_setCell_other (w := wr) (v := .int .u64 (x1 : Int)) (a := ⟨g, o1 + i, none⟩) (b := ⟨g, o1 + i2, none⟩) (h := by rw [hi2]; simp)).trans hcy
          have hcx8 := World.cell?_setCell_same (w := wr) (v := .int .u64 (x1 : Int)) (h := hcx)
          have hfx8 := hB8.free (o1 + i)
          have hxz2 : ((x1 + z : Nat) : Int) = (x1 : Int) + (z : Int) := by omega
          rw [hxz2] at hor
          have Hi2 := Lib.hid hi2
          clear hi2 hB hch hx hx1 hdig hset hz hzc hq hy hB8 hch8 hxz2 hx1l
          go_upto_region 9 with (fail)
          generalize wr.setCell ⟨g, o1 + i, none⟩ (.int .u64 (x1 : Int)) = w8 at hcy8 hcx8 hfx8 HB8 Hch8 ⊢
          clear hcx hfx hcy
          have hch9 : Chg g w w8.drew := Hch8.out.drew
          have hB9 : Lim w8.drew g o1 n1 (updN 18446744073709551616 (shrN 18446744073709551616 X1 (2 ^ r) i) i x1) := HB8.out.drew
          have hcx9 : w8.drew.cell? ⟨g, o1 + i, none⟩ = some (.int .u64 (x1 : Int)) := hcx8
          have hfx9 : w8.drew.frozen? ⟨g, o1 + i, none⟩ = false := hfx8
          go_still_tail 14, (by kernel_rfl)
          change wpList _ _ _ _ _ w8.drew
          generalize w8.drew = w9 at hch9 hB9 hcx9 hfx9 ⊢
          have hst := (hB9.set (j := i) (v := x1 + z) hxz hlt).digs hlt hxz (X' := shrN 18446744073709551616 X1 (2 ^ r) (i + 1)) (by rw [← updN_digs (by omega) hlt hx1B, List.set_set, Hset.out])
          rw [show lvn (x1 + z) = Value.int .u64 ((x1 : Int) + (z : Int)) by unfold lvn; congr 1] at hst
          have HP := Lib.hid (show RightRel w g o1 n1 X1 r (.int .i64 (i2 : Int)) (w9.setCell ⟨g, o1 + i, none⟩ (.int .u64 ((x1 : Int) + (z : Int)))) from ⟨i + 1, by omega, by rw [Hi2.out], hst, hch9.set _ _⟩)
          clear hB9 hch9 hst hcx8 hfx8 hcy8 HB8 Hch8
          go_wp2
          go_roundw
          case rel => exact HP.out
          case measure => have := Hi2.out; simp [intOf]; omega
        · have hz : X1 / 18446744073709551616 ^ (i + 1) = 0 := by
            rw [show i + 1 = n1 by omega]
            exact Nat.div_eq_of_lt HX1.out
          rw [hz] at hdig
          simp only [Nat.zero_mod, Nat.zero_mul, Nat.add_zero] at hdig
          rw [hdig] at hset
          have hst := (hB.set (j := i) (v := x1) hx1B hlt).digs hlt hx1B hset
          rw [show lvn x1 = Value.int .u64 (x1 : Int) from rfl] at hst
          have HP := Lib.hid (show RightRel w g o1 n1 X1 r (.int .i64 ((i : Int) + 1)) (wr.setCell ⟨g, o1 + i, none⟩ (.int .u64 (x1 : Int))) from ⟨i + 1, by omega, by go_num, hst, hch.set _ _⟩)
          have hk1i : ¬ (i : Int) + 1 < (n1 : Int) := by omega
          clear hB hch hx hx1 hdig hset hz hst
          go_wp2
          go_roundw
          case rel => exact HP.out
          case measure => simp [intOf]; omega
      · obtain rfl : i = n1 := by omega
        rw [shrN_end HX1.out] at hB
        have hZl : X1 / 2 ^ r < 18446744073709551616 ^ i := Nat.lt_of_le_of_lt (Nat.div_le_self _ _) HX1.out
        have HC := Lib.hid (cut_any wr g o1 i c1 (X1 / 2 ^ r) hB hZl hn1c hn1l)
        have HP := Lib.hid (show ∀ q, RightPost w g (X1 / 2 ^ r) (.returned (.slice (some ⟨g, o1, none⟩) (llen (X1 / 2 ^ r)) c1)) (wr.drewN q) from fun q => ⟨o1, c1, rfl, Nat.le_trans ((llen_le _ _).mpr hZl) hn1c, (hB.take ((llen_le _ _).mpr hZl)).drewN q, hch.drewN q⟩)
        obtain ⟨l, hl⟩ : ∃ l, l = llen (X1 / 2 ^ r) := ⟨_, rfl⟩
        rw [← hl] at HC HP
        clear hB hch hZl hl
        go_wp2_with fail
        refine HC.out.mono ?_
        rintro e w' ⟨rfl, q, rfl⟩
        go_wp2
        go_ret
        exact HP.out q
  · subst hr0
    have hZ0 : X1 / 2 ^ 0 = X1 := by rw [Nat.pow_zero, Nat.div_one]
    rw [hZ0]
    have HC := Lib.hid (cut_any w g o1 n1 c1 X1 HL1.out HX1.out hn1c hn1l)
    have HP := Lib.hid (show ∀ q, RightPost w g X1 (.returned (.slice (some ⟨g, o1, none⟩) (llen X1) c1)) (w.drewN q) from fun q => ⟨o1, c1, rfl, Nat.le_trans ((llen_le _ _).mpr HX1.out) hn1c, (HL1.out.take ((llen_le _ _).mpr HX1.out)).drewN q, (Chg.refl _ _).drewN q⟩)
    obtain ⟨l, hl⟩ : ∃ l, l = llen X1 := ⟨_, rfl⟩
    rw [← hl] at HC HP
    clear hl hZ0
    go_enter Tryd.func131, Tryd.ntmps131
    go_wp2_with fail
    refine HC.out.mono ?_
    rintro e w' ⟨rfl, q, rfl⟩
    go_wp2
    go_ret
    exact HP.out q
end Go.Proofs.YtnnbnecpcppkdaaDoor
namespace Go.Proofs.YtnnbnecpcppkdaaDoor
open Go.RowKit Go.Gy
set_option linter.unusedVariables false
section
variable {P : Program} {ops : Array Oper} {rest : List Oper} {o : Oper} {a : Act} {w : World} {Q : Exit → Act → World → Prop}
theorem wpList_min2 (hgd : o.guard = none) (x y : Operand) (ts : Array TypeId) (ho : o.op = .call { callee := .builtin .min, args := #[x, y], argTypes := ts }) (n m : Int) (hx : a.eval x = .int .i64 n) (hy : a.eval y = .int .i64 m) (k : Int) (hk : min n m = k)
    (h : wpList P ops Q rest (a.put o.dst (.int .i64 k)) w) : wpList P ops Q (o :: rest) a w :=
  wpList_plain hgd fun _ hK => by
    have e : (if m < n then m else n) = k := by rw [← hk]; split <;> omega
    unfold Oper.wp execOp
    simp only [ho, resolve, invoke, builtin, Sem.run_bind, Sem.run_pure, Result.andThen_ok, List.map_toArray, List.map_cons, List.map_nil, hx, hy, run_min_int2, e]
    exact hK _ _ h
end
/-- the slice v, in block g, holds the digits of X, without zeros at its end -/
def Lm (w : World) (g : Nat) (v : Value) (X K : Nat) : Prop := ∃ o c, v = .slice (some ⟨g, o, none⟩) (llen X) c ∧ llen X ≤ c ∧ llen X ≤ K ∧ Lim w g o (llen X) X
theorem Lm.drewN {w : World} {g X K : Nat} {v : Value} (h : Lm w g v X K) (q : Nat) : Lm (w.drewN q) g v X K := h
theorem Lm.chg {w w' : World} {g g' X K : Nat} {v : Value} (h : Lm w g v X K) (hc : Chg g' w w') (hne : g ≠ g') : Lm w' g v X K := by
  obtain ⟨o, c, h1, h2, h3, h4⟩ := h
  exact ⟨o, c, h1, h2, h3, h4.chg hc hne⟩
theorem Lm.below {w w' : World} {g X K B : Nat} {v : Value} (h : Lm w g v X K) (hb : Below B w w') (hg : g < B) : Lm w' g v X K := by
  obtain ⟨o, c, h1, h2, h3, h4⟩ := h
  exact ⟨o, c, h1, h2, h3, h4.below hb hg⟩
theorem Lm.lt {w : World} {g X K : Nat} {v : Value} (h : Lm w g v X K) : g < w.heap.size := by
  obtain ⟨o, c, h1, h2, h3, h4⟩ := h
  exact h4.lt
def HRel (w : World) (G K N : Nat) (x y : Value) (wr : World) : Prop := ∃ gx gy X Y, Lm wr gx x X K ∧ Lm wr gy y Y K ∧ gx ≠ gy ∧ w.heap.size ≤ gx ∧ w.heap.size ≤ gy ∧ Hid (X % 2 = 1) ∧ Hid (Y % 2 = 1) ∧ Hid (Nat.gcd X Y = G) ∧ X + Y ≤ N ∧ Below w.heap.size w wr
def HCut (w : World) (G K N : Nat) (x y : Value) (wr : World) : Prop := ∃ gx gy X Y, Lm wr gx x X K ∧ Lm wr gy y Y K ∧ gx ≠ gy ∧ w.heap.size ≤ gx ∧ w.heap.size ≤ gy ∧ Hid (X % 2 = 1) ∧ Hid (Y % 2 = 1) ∧ Hid (Nat.gcd X Y = G) ∧ X + Y ≤ N ∧ Y ≤ X ∧ Below w.heap.size w wr
def HEnd (w : World) (G K : Nat) (x y : Value) (wr : World) : Prop := ∃ gx gy X Y, Lm wr gx x X K ∧ Lm wr gy y Y K ∧ gx ≠ gy ∧ w.heap.size ≤ gy ∧ ((llen X = 0 ∧ Y = G) ∨ (llen X = 1 ∧ llen Y = 1 ∧ Nat.gcd X Y = G)) ∧ Below w.heap.size w wr
def HY (w : World) (G K : Nat) (y : Value) (wr : World) : Prop := ∃ gy, Lm wr gy y G K ∧ w.heap.size ≤ gy ∧ Below w.heap.size w wr
def HO (wc : World) (G lg M : Nat) (i : Value) (wr : World) : Prop := ∃ k : Nat, k ≤ lg ∧ i = .int .i64 k ∧ Blk wr wc.heap.size 5 ((beL M (G % 18446744073709551616 ^ k)).map bvn).toArray ∧ Below wc.heap.size wc wr
def HI (wc : World) (G i x M : Nat) (k : Value) (wr : World) : Prop := ∃ j : Nat, j ≤ 8 ∧ k = .int .i64 j ∧ Blk wr wc.heap.size 5 ((beL M (G % 18446744073709551616 ^ i + 18446744073709551616 ^ i * (x / 256 ^ (8 - j) * 256 ^ (8 - j)))).map bvn).toArray ∧ Below wc.heap.size wc wr
def wvb (x k : Nat) : Value := .int .u8 ((x / 256 ^ (7 - k) % 256 : Nat) : Int)
theorem wvb_eq (x k : Nat) (hk : k < 8) : wvb x k = .int .u8 ((x : Int) / 2 ^ (56 - 8 * k) % 256) := by
  unfold wvb
  congr 1
  rw [show (256 : Nat) = 2 ^ 8 from rfl, ← Nat.pow_mul, show 8 * (7 - k) = 56 - 8 * k by omega]
  simp
/-- one byte of a limb is written -/
theorem eight_set {M p i lo x k : Nat} (hM : p + 8 + 8 * i = M) (hlo : lo < 18446744073709551616 ^ i) (hk : k < 8) :
    (beL M (lo + 18446744073709551616 ^ i * (x / 256 ^ (8 - k) * 256 ^ (8 - k)))).set (p + k) (x / 256 ^ (7 - k) % 256) = beL M (lo + 18446744073709551616 ^ i * (x / 256 ^ (7 - k) * 256 ^ (7 - k))) := by
  rw [pow_limb] at *
  obtain ⟨j, hj⟩ : ∃ j, j = 8 * i + (7 - k) := ⟨_, rfl⟩
  have e1 : lo + 256 ^ (8 * i) * (x / 256 ^ (8 - k) * 256 ^ (8 - k)) = lo + 256 ^ (j + 1) * (x / 256 ^ (8 - k)) := by
    rw [hj, show 8 * i + (7 - k) + 1 = 8 * i + (8 - k) by omega, Nat.pow_add]
    grind
  have e2 : x / 256 ^ (7 - k) = x / 256 ^ (7 - k) % 256 + 256 * (x / 256 ^ (8 - k)) := by
    rw [show 8 - k = 7 - k + 1 by omega, Nat.pow_succ, ← Nat.div_div_eq_div_mul, Nat.mod_add_div]
  unfold beL
  rw [rev_set (j := j) (by rw [digs_len]; omega), e1, digs_new (by omega) (by omega) (Nat.mod_lt _ (by omega)) (four_zero hlo (by omega))]
  congr 2
  generalize x / 256 ^ (8 - k) = q at *
  generalize x / 256 ^ (7 - k) % 256 = b at *
  rw [e2, hj, Nat.pow_succ, Nat.pow_add]
  grind
theorem two_byte {r : Nat} (hr : r < 8) : bvn (2 ^ r) = .int .u8 ((2 : Int) ^ r % 256) := by
  unfold bvn
  congr 1
  have h : (2 : Nat) ^ r < 256 := Nat.pow_lt_pow_right (a := 2) (by omega) (show r < 8 from hr)
  have e : (2 : Int) ^ r = ((2 ^ r : Nat) : Int) := by simp
  rw [e]
  generalize (2 : Nat) ^ r = z at h ⊢
  omega
theorem power_str {n q r : Nat} (hr : r = n % 8) (hq : q = n / 8) : sval (strOf (2 ^ r :: List.replicate q 0)) = 2 ^ n := by
  have h : (2 : Nat) ^ r < 256 := Nat.pow_lt_pow_right (a := 2) (by omega) (show r < 8 by omega)
  have e := power_val n q (UInt8.ofNat (2 ^ r)) (by rw [UInt8.toNat_ofNat', Nat.mod_eq_of_lt (by omega), hr]) hq
  unfold sval strOf
  simp only [List.map_cons, List.map_replicate]
  exact e
theorem odd_quot {A n : Nat} (h : OddAt A n) : A / 2 ^ n % 2 = 1 ∧ 2 ^ n ≤ A ∧ A = 2 ^ n * (A / 2 ^ n) := by
  obtain ⟨z, h1, h2⟩ := h
  have hp : 0 < 2 ^ n := Nat.pow_pos (by omega)
  have e : A / 2 ^ n = z := by rw [h1, Nat.mul_div_cancel_left _ hp]
  rw [e]
  refine ⟨h2, ?_, h1⟩
  rw [h1]
  exact Nat.le_mul_of_pos_right _ (by omega)
theorem llen_mono {a b : Nat} (h : a ≤ b) : llen a ≤ llen b := (llen_le _ _).mpr (Nat.lt_of_le_of_lt h (llen_lt b))
theorem llen_pos {a : Nat} (h : a ≠ 0) : 1 ≤ llen a := by
  rcases Nat.eq_zero_or_pos (llen a) with h1 | h1
  · have := llen_lt a
    rw [h1] at this
    omega
  · exact h1
theorem llen_size (A : Nat) (h : (natS A).size ≤ 8796093022208) : llen A ≤ 1099511627776 := by
  rw [natS_size] at h
  unfold llen
  omega
theorem pow_size {A p : Nat} (h : 2 ^ p ≤ A) (hs : (natS A).size ≤ 8796093022208) : p < 70368744177664 := by
  rw [natS_size] at hs
  have h1 := (natL_len_le A _).mp (Nat.le_refl _)
  have h2 : 2 ^ p < 2 ^ (8 * (natL A).length) := by rw [Nat.pow_mul]; exact Nat.lt_of_le_of_lt h h1
  have h3 := (Nat.pow_lt_pow_iff_right (show 1 < 2 by omega)).mp h2
  omega
set_option maxRecDepth 100000 in
set_option maxHeartbeats 8000000 in
theorem halves_any (w : World) (A B : Nat) (hA0 : A ≠ 0) (hB0 : B ≠ 0) (hs : (natS A).size ≤ 8796093022208) (ht : (natS B).size ≤ 8796093022208) (hT : Tab w) (hg : 1 < w.heap.size) :
    Calls Tryd.prog 124 #[.string (natS A), .string (natS B)] w fun e w' => e = .returned (.string (natS (Nat.gcd A B))) ∧ Below w.heap.size w w' := by
  have H1 := Lib.hid (fun w' => limbs_any w' A (by omega))
  have H2 := Lib.hid (fun w' => limbs_any w' B (by omega))
  have hk1 := llen_size A hs
  have hk2 := llen_size B ht
  have HT := Lib.hid (show ∀ w', Below w.heap.size w w' → Tab w' from fun w' hb => hT.below hb hg)
  have HA0 := Lib.hid hA0
  have HB0 := Lib.hid hB0
  have HAl := Lib.hid (llen_lt A)
  have HBl := Lib.hid (llen_lt B)
  have HsA := Lib.hid hs
  have HsB := Lib.hid ht
  obtain ⟨sa, hsa⟩ : ∃ s, s = natS A := ⟨_, rfl⟩
  obtain ⟨sb, hsb⟩ : ∃ s, s = natS B := ⟨_, rfl⟩
  obtain ⟨m, hm⟩ : ∃ m, m = llen A := ⟨_, rfl⟩
  obtain ⟨n, hn⟩ : ∃ n, n = llen B := ⟨_, rfl⟩
  have H1' := Lib.hid (show ∀ w, Calls Tryd.prog 129 #[.string sa] w fun e w' => ∃ G, e = .returned (.slice (some ⟨G, 0, none⟩) m m) ∧ w.heap.size ≤ G ∧ Blk w' G 145 ((digs 18446744073709551616 m A).map lvn).toArray ∧ Below w.heap.size w w' by rw [hm, hsa]; exact H1.out)
  have H2' := Lib.hid (show ∀ w, Calls Tryd.prog 129 #[.string sb] w fun e w' => ∃ G, e = .returned (.slice (some ⟨G, 0, none⟩) n n) ∧ w.heap.size ≤ G ∧ Blk w' G 145 ((digs 18446744073709551616 n B).map lvn).toArray ∧ Below w.heap.size w w' by rw [hn, hsb]; exact H2.out)
  rw [← hsa, ← hsb]
  rw [← hm] at hk1 HAl
  rw [← hn] at hk2 HBl
  have Hm := Lib.hid hm
  have Hn := Lib.hid hn
  clear hT hA0 hB0 hs ht H1 H2 hsa hsb hm hn
  go_enter Tryd.func124, Tryd.ntmps124
  go_wp2_with fail
  refine (H1'.out _).mono ?_
  rintro e w1 ⟨gx, rfl, hgx, hX, hb1⟩
  go_wp2_with fail
  refine (H2'.out w1).mono ?_
  rintro e w2 ⟨gy, rfl, hgy, hY, hb2⟩
  have hgl := hX.lt
  have hLx := Lim.of (hX.below hb2 hgl)
  have hLy := Lim.of hY
  have hbw := hb1.trans (hb2.mono hb1.size)
  have hgyw : w.heap.size ≤ gy := Nat.le_trans hb1.size hgy
  have hne : gx ≠ gy := by omega
  have E1 := Lib.hid (evens_any w2 gx 0 m m A hLx HAl.out HA0.out (Nat.le_refl _) (by omega) (HT.out w2 hbw))
  have E2 := Lib.hid (evens_any w2 gy 0 n n B hLy HBl.out HB0.out (Nat.le_refl _) (by omega) (HT.out w2 hbw))
  have Hbw := Lib.hid hbw
  have HLx := Lib.hid hLx
  have HLy := Lib.hid hLy
  clear hX hY hb1 hb2 hLx hLy hbw hgy hgl H1' H2'
  go_wp2_with fail
  refine E1.out.mono ?_
  rintro e w' ⟨p, rfl, hp, rfl⟩
  go_wp2_with fail
  refine E2.out.mono ?_
  rintro e w' ⟨r, rfl, hr, rfl⟩
  obtain ⟨p1, p2, p3⟩ := odd_quot hp
  obtain ⟨r1, r2, r3⟩ := odd_quot hr
  have R1 := Lib.hid (right_any w2 gx 0 m m A p HLx.out HAl.out (Nat.le_refl _) (by omega) p2)
  have R2 := Lib.hid (show ∀ w', Chg gx w2 w' → Calls Tryd.prog 131 #[.slice (some ⟨gy, 0, none⟩) n n, .int .i64 r] w' (RightPost w' gy (B / 2 ^ r)) from fun w' hc => right_any w' gy 0 n n B r (HLy.out.chg hc (fun e => hne e.symm)) HBl.out (Nat.le_refl _) (by omega) r2)
  have hpb : p < 70368744177664 := pow_size p2 HsA.out
  have hrb : r < 70368744177664 := pow_size r2 HsB.out
  have HG := Lib.hid (show 2 ^ min p r * Nat.gcd (A / 2 ^ p) (B / 2 ^ r) = Nat.gcd A B by
    rw [← gcd_powers p1 r1, ← p3, ← r3])
  have hXle : A / 2 ^ p ≤ A := Nat.div_le_self _ _
  have hYle : B / 2 ^ r ≤ B := Nat.div_le_self _ _
  have HXl := Lib.hid (show llen (A / 2 ^ p) ≤ m + n from Nat.le_trans (by rw [Hm.out]; exact llen_mono hXle) (Nat.le_add_right _ _))
  have HYl := Lib.hid (show llen (B / 2 ^ r) ≤ m + n from Nat.le_trans (by rw [Hn.out]; exact llen_mono hYle) (Nat.le_add_left _ _))
  have P1 := Lib.hid p1
  have Q1 := Lib.hid r1
  clear hp hr p1 p2 p3 r1 r2 r3 hXle hYle E1 E2
  go_wp2_with fail
  refine R1.out.mono ?_
  rintro e w3 ⟨ox, cx, rfl, hcx, hLx, hc3⟩
  go_wp2_with fail
  refine (R2.out w3 hc3).mono ?_
  rintro e w4 ⟨oy, cy, rfl, hcy, hLy, hc4⟩
  have hst : HRel w (Nat.gcd (A / 2 ^ p) (B / 2 ^ r)) (m + n) (A / 2 ^ p + B / 2 ^ r) (.slice (some ⟨gx, ox, none⟩) (llen (A / 2 ^ p)) cx) (.slice (some ⟨gy, oy, none⟩) (llen (B / 2 ^ r)) cy) w4 :=
    ⟨gx, gy, _, _, ⟨ox, cx, rfl, hcx, HXl.out, hLx.chg hc4 hne⟩, ⟨oy, cy, rfl, hcy, HYl.out, hLy⟩, hne, hgx, hgyw, P1, Q1, Lib.hid rfl, Nat.le_refl _, Hbw.out.trans ((hc3.below hgx Hbw.out.size).trans (hc4.below hgyw (Nat.le_trans Hbw.out.size hc3.1.size)))⟩
  obtain ⟨X0, hX0⟩ : ∃ X, X = A / 2 ^ p := ⟨_, rfl⟩
  obtain ⟨Y0, hY0⟩ : ∃ Y, Y = B / 2 ^ r := ⟨_, rfl⟩
  obtain ⟨G, hG⟩ : ∃ G, G = Nat.gcd X0 Y0 := ⟨_, rfl⟩
  rw [← hX0, ← hY0, ← hG] at hst
  rw [← hX0, ← hY0, ← hG] at HG
  obtain ⟨lx, hlx⟩ : ∃ l, l = llen X0 := ⟨_, rfl⟩
  obtain ⟨ly, hly⟩ : ∃ l, l = llen Y0 := ⟨_, rfl⟩
  rw [← hX0, ← hY0]
  rw [← hlx, ← hly] at hst ⊢
  have Hst := Lib.hid hst
  clear hst hLx hLy hc3 hc4 hX0 hY0 hlx hly hcx hcy hG R1 R2 HLx HLy HXl HYl P1 Q1
  obtain ⟨K, hK⟩ : ∃ K, K = m + n := ⟨_, rfl⟩
  have hKl : K ≤ 2199023255552 := by omega
  rw [← hK] at Hst
  go_upto_block 0 with (fail)
  go_cut [5, 6] (fun x y wx => HEnd w G K x y wx)
  case first =>
    go_wp2_with fail
    go_loopg [5, 6] (X0 + Y0) (fun N x y wr => HRel w G K N x y wr)
    case atStart => exact Hst.out
    case round =>
      obtain ⟨gx, gy, X, Y, ⟨ox, cx, rfl, hcx, hKx, hLx⟩, ⟨oy, cy, rfl, hcy, hKy, hLy⟩, hne, hgx, hgy, HXo, HYo, HGc, hN, hbw⟩ := hrel
      have hX0 : X ≠ 0 := fun e => by have := HXo.out; rw [e] at this; cases this
      have hY0 : Y ≠ 0 := fun e => by have := HYo.out; rw [e] at this; cases this
      have hx1 := llen_pos hX0
      have hy1 := llen_pos hY0
      have HBL := Lib.hid (below_limbs wr gx ox cx X gy oy cy Y hLx hLy hcx hcy (by omega) (by omega))
      have HLx := Lib.hid hLx
      have HLy := Lib.hid hLy
      have HE := Lib.hid (show llen X = 1 ∧ llen Y = 1 → HEnd w G K (.slice (some ⟨gx, ox, none⟩) (llen X) cx) (.slice (some ⟨gy, oy, none⟩) (llen Y) cy) wr from fun h => ⟨gx, gy, X, Y, ⟨ox, cx, rfl, hcx, hKx, hLx⟩, ⟨oy, cy, rfl, hcy, hKy, hLy⟩, hne, hgy, .inr ⟨h.1, h.2, HGc.out⟩, hbw⟩)
      have Hbw := Lib.hid hbw
      clear hLx hLy hbw
      by_cases hcond : 1 < llen X ∨ 1 < llen Y
      · have hc2 : (1 < llen X) ∨ (¬ 1 < llen X ∧ 1 < llen Y) := by omega
        clear hcond HE
        rcases hc2 with h1 | ⟨h1, h2⟩
        all_goals
          go_wp2_with fail
          refine HBL.out.mono ?_
          rintro e w' ⟨rfl, q, rfl⟩
          go_upto_if 38 with (fail)
          go_cut [5, 6] (fun x y wx => HCut w G K gk x y wx)
          case first =>
            by_cases hXY : X < Y
            · have hd : decide (X < Y) = true := decide_eq_true hXY
              go_wp2
              go_meet
              exact ⟨gy, gx, Y, X, ⟨oy, cy, rfl, hcy, hKy, HLy.out.drewN q⟩, ⟨ox, cx, rfl, hcx, hKx, HLx.out.drewN q⟩, fun e => hne e.symm, hgy, hgx, HYo, HXo, Lib.hid (by rw [Nat.gcd_comm]; exact HGc.out), by omega, by omega, below_drewN Hbw.out q⟩
            · have hd : decide (X < Y) = false := decide_eq_false hXY
              go_wp2
              go_meet
              exact ⟨gx, gy, X, Y, ⟨ox, cx, rfl, hcx, hKx, HLx.out.drewN q⟩, ⟨oy, cy, rfl, hcy, hKy, HLy.out.drewN q⟩, hne, hgx, hgy, HXo, HYo, HGc, hN, by omega, below_drewN Hbw.out q⟩
          case rest =>
            obtain ⟨gx, gy, X, Y, ⟨ox, cx, rfl, hcx, hKx, hLx⟩, ⟨oy, cy, rfl, hcy, hKy, hLy⟩, hne, hgx, hgy, HXo, HYo, HGc, hN, hYX, hbw⟩ := hcut
            have hY0 : Y ≠ 0 := fun e => by have := HYo.out; rw [e] at this; cases this
            have hDle : llen (X - Y) ≤ llen X := llen_mono (Nat.sub_le _ _)
            have HM := Lib.hid (minus_any wc gx ox cx gy oy cy (llen X) (llen Y) X Y (fun e => hne e.symm) (llen_mono hYX) (by omega) hcx hLx hLy (llen_lt X) (llen_lt Y) hYX)
            have HLy := Lib.hid hLy
            have Hbw := Lib.hid hbw
            clear hLx hLy hbw
            go_wp2_with fail
            refine HM.out.mono ?_
            rintro e w6 ⟨rfl, hL6, hc6⟩
            have hb6 := Hbw.out.trans (hc6.below hgx Hbw.out.size)
            have hLy6 := HLy.out.chg hc6 (fun e => hne e.symm)
            by_cases hD : X = Y
            · have hl0 : llen (X - Y) = 0 := by rw [hD, Nat.sub_self]; unfold llen; rw [natL_zero]; rfl
              have HP := Lib.hid (show HEnd w G K (.slice (some ⟨gx, ox, none⟩) (llen (X - Y)) cx) (.slice (some ⟨gy, oy, none⟩) (llen Y) cy) w6 from ⟨gx, gy, X - Y, Y, ⟨ox, cx, rfl, by omega, by omega, hL6⟩, ⟨oy, cy, rfl, hcy, hKy, hLy6⟩, hne, hgy, .inl ⟨hl0, by rw [← HGc.out, hD, Nat.gcd_self]⟩, hb6⟩)
              rw [hl0] at HP ⊢
              clear hD hl0 hL6 hc6 hb6 hLy6
              go_wp2
              go_meet
              exact HP.out
            · have hD0 : X - Y ≠ 0 := by omega
              have hl1 := llen_pos hD0
              have HEv := Lib.hid (evens_any w6 gx ox (llen (X - Y)) cx (X - Y) hL6 (llen_lt _) hD0 (by omega) (by omega) (HT.out w6 hb6))
              have hlne : ((llen (X - Y) : Int) == 0) = false := by simp; omega
              have HL6 := Lib.hid hL6
              have HLy6 := Lib.hid hLy6
              have Hb6 := Lib.hid hb6
              clear hL6 hc6 hb6 hLy6 hD
              go_wp2_with fail
              refine HEv.out.mono ?_
              rintro e w' ⟨k, rfl, hk, rfl⟩
              obtain ⟨k1, k2, k3⟩ := odd_quot hk
              have HR := Lib.hid (right_any w6 gx ox (llen (X - Y)) cx (X - Y) k HL6.out (llen_lt _) (by omega) (by omega) k2)
              have hXk : (X - Y) / 2 ^ k ≤ X - Y := Nat.div_le_self _ _
              have hlk : llen ((X - Y) / 2 ^ k) ≤ K := Nat.le_trans (llen_mono hXk) (by omega)
              have hgk : Nat.gcd ((X - Y) / 2 ^ k) Y = G := by
                have e := gcd_half (x := (X - Y) / 2 ^ k) (k := k) HYo.out
                rw [← k3, gcd_less hYX, HGc.out] at e
                exact e.symm
              have K1 := Lib.hid k1
              have Hgk := Lib.hid hgk
              clear hk k1 k2 k3 hgk
              go_wp2_with fail
              refine HR.out.mono ?_
              rintro e w7 ⟨o7, c7, rfl, hc7, hL7, hch7⟩
              have HP := Lib.hid (show HRel w G K (gk - 1) (.slice (some ⟨gx, o7, none⟩) (llen ((X - Y) / 2 ^ k)) c7) (.slice (some ⟨gy, oy, none⟩) (llen Y) cy) w7 from ⟨gx, gy, _, Y, ⟨o7, c7, rfl, hc7, hlk, hL7⟩, ⟨oy, cy, rfl, hcy, hKy, HLy6.out.chg hch7 (fun e => hne e.symm)⟩, hne, hgx, hgy, K1, HYo, Hgk, by omega, Hb6.out.trans (hch7.below hgx Hb6.out.size)⟩)
              have hgkp : gk - 1 < gk := by omega
              clear hL7 hch7 hc7 hXk hlk
              go_wp2
              go_roundg (gk - 1)
              case measure => exact hgkp
              case rel => exact HP.out
      · have h1 : ¬ 1 < llen X := by omega
        have h2 : ¬ 1 < llen Y := by omega
        have HP := Lib.hid (HE.out ⟨by omega, by omega⟩)
        clear HE
        go_wp2
        go_meet
        exact HP.out
  case rest =>
    obtain ⟨gx, gy, X, Y, ⟨ox, cx, rfl, hcx, hKx, hLx⟩, ⟨oy, cy, rfl, hcy, hKy, hLy⟩, hne, hgy, hor, hbw⟩ := hcut
    rcases hor with ⟨hl0, hYG⟩ | ⟨hl1, hl2, hXY⟩
    · have HP := Lib.hid (show HY w G K (.slice (some ⟨gy, oy, none⟩) (llen Y) cy) wc from ⟨gy, ⟨oy, cy, by rw [hYG], by rw [← hYG]; exact hcy, by rw [← hYG]; exact hKy, by rw [← hYG]; exact hLy⟩, hgy, hbw⟩)
      have hb0 : ((llen X : Int) == 1) = false := by rw [hl0]; rfl
      clear hLx hLy hYG hl0
      go_upto_if 58 with (fail)
      go_cut [6] (fun y wx => HY w G K y wx)
      case first =>
        go_wp2
        go_meet
        exact HP.out
      case rest =>
        obtain ⟨gy, ⟨oy, cy, rfl, hcy, hKy, hLy⟩, hgy, hbw⟩ := hcut
        obtain ⟨lg, hlg⟩ : ∃ l, l = llen G := ⟨_, rfl⟩
        rw [← hlg] at hcy hKy hLy ⊢
        have hgyl := hLy.lt
        have hGl := llen_lt G
        rw [← hlg] at hGl
        obtain ⟨M, hM⟩ : ∃ M, M = 8 * lg := ⟨_, rfl⟩
        have hMi : (8 : Int) * (lg : Int) = (M : Int) := by omega
        have hMl : M ≤ 8796093022208 := by
          have h1 : G ≤ A := Nat.le_trans (Nat.le_of_dvd (Nat.pos_of_ne_zero (fun e => HA0.out (Nat.eq_zero_of_gcd_eq_zero_left e))) (show G ∣ Nat.gcd A B from ⟨2 ^ min p r, by rw [← HG.out, Nat.mul_comm]⟩)) (Nat.gcd_le_left _ (Nat.pos_of_ne_zero HA0.out))
          have h2 := llen_mono h1
          have h3 := HsA.out
          rw [natS_size] at h3
          unfold llen at h2 hlg
          omega
        have hmk := make_u8 M (by omega) wc
        have Hx := Lib.hid (show ∀ i, i < lg → ∀ wr, Below wc.heap.size wc wr → wr.cell? ⟨gy, oy + i, none⟩ = some (.int .u64 ((G / 18446744073709551616 ^ i % 18446744073709551616 : Nat) : Int)) from fun i hi wr hb => (hb.cell (p := ⟨gy, oy + i, none⟩) hgyl).trans (hLy.cell hi))
        have HGl := Lib.hid hGl
        have HM := Lib.hid hM
        have Hbw := Lib.hid hbw
        clear hLy hGl hM hbw hgyl hlg
        go_wp2
        go_loopw [74] (fun i wr => HO wc G lg M i wr) (fun i _ => lg - (intOf i).toNat)
        case atStart =>
          refine ⟨0, Nat.zero_le _, rfl, ?_, (Below.refl _ _).alloc (Nat.le_refl _) _⟩
          rw [Nat.pow_zero, Nat.mod_one, beL_zero]
          have := Blk.new wc 5 ((List.replicate M 0).map bvn).toArray
          simpa using this
        case round =>
          obtain ⟨wo, rfl⟩ : ∃ wo : World, wo = wr := ⟨_, rfl⟩
          obtain ⟨i, hi, rfl, hB, hb3⟩ := hrel
          by_cases hlt : i < lg
          · have hcx := Hx.out i hlt wo hb3
            obtain ⟨x, hx⟩ : ∃ x, x = G / 18446744073709551616 ^ i % 18446744073709551616 := ⟨_, rfl⟩
            have hxl : x < 18446744073709551616 := by rw [hx]; exact Nat.mod_lt _ (by omega)
            rw [← hx] at hcx
            obtain ⟨d, hd⟩ : ∃ d, d = lg - 1 - i := ⟨_, rfl⟩
            have hdi : (lg : Int) - 1 - (i : Int) = (d : Int) := by omega
            obtain ⟨pp, hpp⟩ : ∃ p, p = 8 * d := ⟨_, rfl⟩
            have hpi : (8 : Int) * (d : Int) = (pp : Int) := by omega
            have hpM : pp + 8 + 8 * i = M := by have := HM.out; omega
            have Hst := Lib.hid (show HI wc G i x M (.int .i64 0) wo from ⟨0, Nat.zero_le _, rfl, by
              rw [show x / 256 ^ (8 - 0) = 0 from Nat.div_eq_of_lt hxl, Nat.zero_mul, Nat.mul_zero, Nat.add_zero]
              exact hB, hb3⟩)
            have HX := Lib.hid hx
            clear hx hB hb3 hd hpp
            go_wp2
            go_loopw [79] (fun k wr => HI wc G i x M k wr) (fun k _ => 8 - (intOf k).toNat)
            case atStart => exact Hst.out
            case round =>
              obtain ⟨k, hk, rfl, hB, hb3⟩ := hrel
              by_cases hk8 : k < 8
              · have hpk : pp + k < M := by omega
                have hpkM : (pp : Int) + (k : Int) < (M : Int) := by omega
                have hcb := hB.cell (pp + k) (bvn ((G % 18446744073709551616 ^ i + 18446744073709551616 ^ i * (x / 256 ^ (8 - k) * 256 ^ (8 - k))) / 256 ^ (M - 1 - (pp + k)) % 256)) (by simp [beL_get M _ (pp + k) hpk])
                have hfb := hB.free (pp + k)
                have hst := blk_setn hB (pp + k) (x / 256 ^ (7 - k) % 256)
                rw [eight_set (i := i) hpM (Nat.mod_lt _ (Nat.pow_pos (by omega))) hk8] at hst
                have He : wvb x k = .int .u8 ((x : Int) / 2 ^ (56 - 8 * k) % 256) := wvb_eq x k hk8
                rw [show bvn (x / 256 ^ (7 - k) % 256) = wvb x k from rfl, He] at hst
                have HP := Lib.hid (show HI wc G i x M (.int .i64 ((k : Int) + 1)) (wr.setCell ⟨wc.heap.size, pp + k, none⟩ (.int .u8 ((x : Int) / 2 ^ (56 - 8 * k) % 256))) from ⟨k + 1, by omega, by go_num, by rw [show 8 - (k + 1) = 7 - k by omega]; exact hst, hb3.setCell (Nat.le_refl _) _⟩)
                clear hB hb3 hst He
                go_wp2
                go_roundw
                case rel => exact HP.out
                case measure => simp [intOf]; omega
              · obtain rfl : k = 8 := by omega
                rw [show x / 256 ^ (8 - 8) * 256 ^ (8 - 8) = x by simp, HX.out, ← mod_succ] at hB
                go_wp2
                go_roundw
                case rel => exact ⟨i + 1, by omega, by go_num, hB, hb3⟩
                case measure => simp [intOf]; omega
          · obtain rfl : i = lg := by omega
            rw [Nat.mod_eq_of_lt HGl.out] at hB
            obtain ⟨nn, hnn⟩ : ∃ nn, nn = min p r := ⟨_, rfl⟩
            have hmin : min (p : Int) (r : Int) = (nn : Int) := by omega
            rw [← hnn] at HG
            obtain ⟨q8, hq8⟩ : ∃ q, q = nn / 8 := ⟨_, rfl⟩
            obtain ⟨r8, hr8⟩ : ∃ q, q = nn % 8 := ⟨_, rfl⟩
            have hq8i : (nn : Int) / 8 = (q8 : Int) := by omega
            have hr8i : (nn : Int) % 8 = (r8 : Int) := by omega
            have hr8t : (nn : Int).tmod 8 = (r8 : Int) := by rw [Int.tmod_eq_emod_of_nonneg (by omega)]; omega
            have hr8l : r8 < 8 := by omega
            have hq8l : q8 + 1 ≤ 8796093022208 := by omega
            have hmk2 := make_u8 (q8 + 1) (by omega) wo
            have hc1 : ((q8 + 1 : Nat) : Int) = (q8 : Int) + 1 := by omega
            rw [hc1] at hmk2
            have Hnn := Lib.hid hnn
            have Hq8 := Lib.hid hq8
            have Hr8 := Lib.hid hr8
            clear Hx hmk hnn hq8 hr8 hc1
            have hBp : Blk (wo.alloc (.cells (Array.replicate (q8 + 1) (bvn 0)) 5)) wo.heap.size 5 ((List.replicate (q8 + 1) 0).map bvn).toArray := by
              have := Blk.new wo 5 ((List.replicate (q8 + 1) 0).map bvn).toArray
              simpa using this
            have hBl := hB.alloc (.cells (Array.replicate (q8 + 1) (bvn 0)) 5)
            have hb4 := hb3.alloc hb3.size (.cells (Array.replicate (q8 + 1) (bvn 0)) 5)
            have hgl : wc.heap.size < wo.heap.size := hB.lt
            clear hB
            go_upto_region 24 with (refine wpList_min2 rfl (.tmp 100) (.tmp 101) _ rfl p r rfl rfl nn hmin ?_)
            generalize hW8 : wo.alloc (.cells (Array.replicate (q8 + 1) (bvn 0)) 5) = w8 at hBp hBl hb4 ⊢
            have hc0 := hBp.cell 0 (bvn 0) (by simp)
            have hf0 := hBp.free 0
            clear hW8
            have hst := blk_setn hBp 0 (2 ^ r8)
            rw [List.replicate_succ, List.set_cons_zero, two_byte hr8l] at hst
            have hBl9 := hBl.far (show wc.heap.size ≠ wo.heap.size by omega) (p := ⟨wo.heap.size, 0, none⟩) (.int .u8 ((2 : Int) ^ r8 % 256))
            have hb9 := hb4.setCell (p := ⟨wo.heap.size, 0, none⟩) (show wc.heap.size ≤ wo.heap.size by omega) (.int .u8 ((2 : Int) ^ r8 % 256))
            generalize hWe : w8.setCell ⟨wo.heap.size, 0, none⟩ (.int .u8 ((2 : Int) ^ r8 % 256)) = w9 at hst hBl9 hb9
            have hcv1 := conv_blk (cap := M) hBl9 (l := beL M G) (List.take_of_length_le (by simp [beL_len]))
            have hcv2 := conv_blk (cap := q8 + 1) hst (l := 2 ^ r8 :: List.replicate q8 0) (List.take_of_length_le (by simp))
            rw [beL_len] at hcv1
            rw [show (2 ^ r8 :: List.replicate q8 0).length = q8 + 1 by simp] at hcv2
            have HM2 := Lib.hid (mul_any w9 (strOf (beL M G)) (strOf (2 ^ r8 :: List.replicate q8 0)) (by simp [strOf, ByteArray.size, beL_len]; exact hMl) (by simp [strOf, ByteArray.size]; omega))
            have hs1 : sval (strOf (beL M G)) = G := by
              rw [sval_beL, HM.out, ← pow_limb]
              exact Nat.mod_eq_of_lt HGl.out
            have hs2 : sval (strOf (2 ^ r8 :: List.replicate q8 0)) = 2 ^ nn := power_str (by rw [Hr8.out]) (by rw [Hq8.out])
            rw [hs1, hs2] at HM2
            have Hb9 := Lib.hid (Hbw.out.trans (hb9.mono Hbw.out.size))
            clear hst hBl9 hb9 hBp hBl hb4 hb3 hs1 hs2
            go_upto_region 25 with (fail)
            clear hc0 hf0 hWe
            go_wp2_with fail
            refine HM2.out.mono ?_
            rintro e w10 ⟨rfl, hb10⟩
            go_wp2
            go_ret
            exact ⟨ret_str (by rw [Nat.mul_comm, HG.out]), Hb9.out.trans (hb10.mono Hb9.out.size)⟩
    · have hcX := hLx.cell (j := 0) (by omega)
      have hcY := hLy.cell (j := 0) (by omega)
      have hfY := hLy.free oy
      have hXl := llen_lt X
      have hYl := llen_lt Y
      rw [hl1, Nat.pow_one] at hXl
      rw [hl2, Nat.pow_one] at hYl
      rw [Nat.pow_zero, Nat.div_one, Nat.mod_eq_of_lt hXl, Nat.add_zero] at hcX
      rw [Nat.pow_zero, Nat.div_one, Nat.mod_eq_of_lt hYl, Nat.add_zero] at hcY
      rw [hl1, hl2]
      rw [hl2] at hLy
      have HCm := Lib.hid (fun w => common_any w X Y hXl hYl)
      rw [hXY] at HCm
      have hY0 : Y ≠ 0 := fun e => by rw [e] at hl2; unfold llen at hl2; rw [natL_zero] at hl2; cases hl2
      have hGY : G ≤ Y := by rw [← hXY]; exact Nat.gcd_le_right _ (Nat.pos_of_ne_zero hY0)
      have hG0 : G ≠ 0 := fun e => by rw [← hXY] at e; exact hY0 (Nat.eq_zero_of_gcd_eq_zero_right e)
      have hGl : llen G = 1 := by
        have h1 := llen_pos hG0
        have h2 := llen_mono hGY
        omega
      have HP := Lib.hid (show ∀ q, HY w G K (.slice (some ⟨gy, oy, none⟩) 1 cy) ((wc.drewN (1 + q)).setCell ⟨gy, oy, none⟩ (.int .u64 (G : Int))) from fun q => ⟨gy, ⟨oy, cy, by rw [hGl], by omega, by omega, by
        rw [hGl]
        have h1 := (hLy.drewN (1 + q)).set (j := 0) (v := G) (by omega) (by omega)
        have h2 := h1.digs (X' := G) (by omega) (by omega) (by simp [digs, Nat.mod_eq_of_lt (show G < 18446744073709551616 by omega)])
        exact h2⟩, hgy, (below_drewN hbw (1 + q)).setCell hgy _⟩)
      clear hY0 hGY hG0 hGl hXY hLx hLy
      go_upto_if 58 with (fail)
      go_cut [6] (fun y wx => HY w G K y wx)
      case first =>
        go_wp2_with fail
        go_region_with (first | (go_at_call 123; refine (HCm.out _).mono ?_; rintro e w' ⟨rfl, q, rfl⟩))
        all_goals
          go_wp2
          go_meet
          exact HP.out q
      case rest =>
        obtain ⟨gy, ⟨oy, cy, rfl, hcy, hKy, hLy⟩, hgy, hbw⟩ := hcut
        obtain ⟨lg, hlg⟩ : ∃ l, l = llen G := ⟨_, rfl⟩
        rw [← hlg] at hcy hKy hLy ⊢
        have hgyl := hLy.lt
        have hGl := llen_lt G
        rw [← hlg] at hGl
        obtain ⟨M, hM⟩ : ∃ M, M = 8 * lg := ⟨_, rfl⟩
        have hMi : (8 : Int) * (lg : Int) = (M : Int) := by omega
        have hMl : M ≤ 8796093022208 := by
          have h1 : G ≤ A := Nat.le_trans (Nat.le_of_dvd (Nat.pos_of_ne_zero (fun e => HA0.out (Nat.eq_zero_of_gcd_eq_zero_left e))) (show G ∣ Nat.gcd A B from ⟨2 ^ min p r, by rw [← HG.out, Nat.mul_comm]⟩)) (Nat.gcd_le_left _ (Nat.pos_of_ne_zero HA0.out))
          have h2 := llen_mono h1
          have h3 := HsA.out
          rw [natS_size] at h3
          unfold llen at h2 hlg
          omega
        have hmk := make_u8 M (by omega) wc
        have Hx := Lib.hid (show ∀ i, i < lg → ∀ wr, Below wc.heap.size wc wr → wr.cell? ⟨gy, oy + i, none⟩ = some (.int .u64 ((G / 18446744073709551616 ^ i % 18446744073709551616 : Nat) : Int)) from fun i hi wr hb => (hb.cell (p := ⟨gy, oy + i, none⟩) hgyl).trans (hLy.cell hi))
        have HGl := Lib.hid hGl
        have HM := Lib.hid hM
        have Hbw := Lib.hid hbw
        clear hLy hGl hM hbw hgyl hlg
        go_wp2
        go_loopw [74] (fun i wr => HO wc G lg M i wr) (fun i _ => lg - (intOf i).toNat)
        case atStart =>
          refine ⟨0, Nat.zero_le _, rfl, ?_, (Below.refl _ _).alloc (Nat.le_refl _) _⟩
          rw [Nat.pow_zero, Nat.mod_one, beL_zero]
          have := Blk.new wc 5 ((List.replicate M 0).map bvn).toArray
          simpa using this
        case round =>
          obtain ⟨wo, rfl⟩ : ∃ wo : World, wo = wr := ⟨_, rfl⟩
          obtain ⟨i, hi, rfl, hB, hb3⟩ := hrel
          by_cases hlt : i < lg
          · have hcx := Hx.out i hlt wo hb3
            obtain ⟨x, hx⟩ : ∃ x, x = G / 18446744073709551616 ^ i % 18446744073709551616 := ⟨_, rfl⟩
            have hxl : x < 18446744073709551616 := by rw [hx]; exact Nat.mod_lt _ (by omega)
            rw [← hx] at hcx
            obtain ⟨d, hd⟩ : ∃ d, d = lg - 1 - i := ⟨_, rfl⟩
            have hdi : (lg : Int) - 1 - (i : Int) = (d : Int) := by omega
            obtain ⟨pp, hpp⟩ : ∃ p, p = 8 * d := ⟨_, rfl⟩
            have hpi : (8 : Int) * (d : Int) = (pp : Int) := by omega
            have hpM : pp + 8 + 8 * i = M := by have := HM.out; omega
            have Hst := Lib.hid (show HI wc G i x M (.int .i64 0) wo from ⟨0, Nat.zero_le _, rfl, by
              rw [show x / 256 ^ (8 - 0) = 0 from Nat.div_eq_of_lt hxl, Nat.zero_mul, Nat.mul_zero, Nat.add_zero]
              exact hB, hb3⟩)
            have HX := Lib.hid hx
            clear hx hB hb3 hd hpp
            go_wp2
            go_loopw [79] (fun k wr => HI wc G i x M k wr) (fun k _ => 8 - (intOf k).toNat)
            case atStart => exact Hst.out
            case round =>
              obtain ⟨k, hk, rfl, hB, hb3⟩ := hrel
              by_cases hk8 : k < 8
              · have hpk : pp + k < M := by omega
                have hpkM : (pp : Int) + (k : Int) < (M : Int) := by omega
                have hcb := hB.cell (pp + k) (bvn ((G % 18446744073709551616 ^ i + 18446744073709551616 ^ i * (x / 256 ^ (8 - k) * 256 ^ (8 - k))) / 256 ^ (M - 1 - (pp + k)) % 256)) (by simp [beL_get M _ (pp + k) hpk])
                have hfb := hB.free (pp + k)
                have hst := blk_setn hB (pp + k) (x / 256 ^ (7 - k) % 256)
                rw [eight_set (i := i) hpM (Nat.mod_lt _ (Nat.pow_pos (by omega))) hk8] at hst
                have He : wvb x k = .int .u8 ((x : Int) / 2 ^ (56 - 8 * k) % 256) := wvb_eq x k hk8
                rw [show bvn (x / 256 ^ (7 - k) % 256) = wvb x k from rfl, He] at hst
                have HP := Lib.hid (show HI wc G i x M (.int .i64 ((k : Int) + 1)) (wr.setCell ⟨wc.heap.size, pp + k, none⟩ (.int .u8 ((x : Int) / 2 ^ (56 - 8 * k) % 256))) from ⟨k + 1, by omega, by go_num, by rw [show 8 - (k + 1) = 7 - k by omega]; exact hst, hb3.setCell (Nat.le_refl _) _⟩)
                clear hB hb3 hst He
                go_wp2
                go_roundw
                case rel => exact HP.out
                case measure => simp [intOf]; omega
              · obtain rfl : k = 8 := by omega
                rw [show x / 256 ^ (8 - 8) * 256 ^ (8 - 8) = x by simp, HX.out, ← mod_succ] at hB
                go_wp2
                go_roundw
                case rel => exact ⟨i + 1, by omega, by go_num, hB, hb3⟩
                case measure => simp [intOf]; omega
          · obtain rfl : i = lg := by omega
            rw [Nat.mod_eq_of_lt HGl.out] at hB
            obtain ⟨nn, hnn⟩ : ∃ nn, nn = min p r := ⟨_, rfl⟩
            have hmin : min (p : Int) (r : Int) = (nn : Int) := by omega
            rw [← hnn] at HG
            obtain ⟨q8, hq8⟩ : ∃ q, q = nn / 8 := ⟨_, rfl⟩
            obtain ⟨r8, hr8⟩ : ∃ q, q = nn % 8 := ⟨_, rfl⟩
            have hq8i : (nn : Int) / 8 = (q8 : Int) := by omega
            have hr8i : (nn : Int) % 8 = (r8 : Int) := by omega
            have hr8t : (nn : Int).tmod 8 = (r8 : Int) := by rw [Int.tmod_eq_emod_of_nonneg (by omega)]; omega
            have hr8l : r8 < 8 := by omega
            have hq8l : q8 + 1 ≤ 8796093022208 := by omega
            have hmk2 := make_u8 (q8 + 1) (by omega) wo
            have hc1 : ((q8 + 1 : Nat) : Int) = (q8 : Int) + 1 := by omega
            rw [hc1] at hmk2
            have Hnn := Lib.hid hnn
            have Hq8 := Lib.hid hq8
            have Hr8 := Lib.hid hr8
            clear Hx hmk hnn hq8 hr8 hc1
            have hBp : Blk (wo.alloc (.cells (Array.replicate (q8 + 1) (bvn 0)) 5)) wo.heap.size 5 ((List.replicate (q8 + 1) 0).map bvn).toArray := by
              have := Blk.new wo 5 ((List.replicate (q8 + 1) 0).map bvn).toArray
              simpa using this
            have hBl := hB.alloc (.cells (Array.replicate (q8 + 1) (bvn 0)) 5)
            have hb4 := hb3.alloc hb3.size (.cells (Array.replicate (q8 + 1) (bvn 0)) 5)
            have hgl : wc.heap.size < wo.heap.size := hB.lt
            clear hB
            go_upto_region 24 with (refine wpList_min2 rfl (.tmp 100) (.tmp 101) _ rfl p r rfl rfl nn hmin ?_)
            generalize hW8 : wo.alloc (.cells (Array.replicate (q8 + 1) (bvn 0)) 5) = w8 at hBp hBl hb4 ⊢
            have hc0 := hBp.cell 0 (bvn 0) (by simp)
            have hf0 := hBp.free 0
            clear hW8
            have hst := blk_setn hBp 0 (2 ^ r8)
            rw [List.replicate_succ, List.set_cons_zero, two_byte hr8l] at hst
            have hBl9 := hBl.far (show wc.heap.size ≠ wo.heap.size by omega) (p := ⟨wo.heap.size, 0, none⟩) (.int .u8 ((2 : Int) ^ r8 % 256))
            have hb9 := hb4.setCell (p := ⟨wo.heap.size, 0, none⟩) (show wc.heap.size ≤ wo.heap.size by omega) (.int .u8 ((2 : Int) ^ r8 % 256))
            generalize hWe : w8.setCell ⟨wo.heap.size, 0, none⟩ (.int .u8 ((2 : Int) ^ r8 % 256)) = w9 at hst hBl9 hb9
            have hcv1 := conv_blk (cap := M) hBl9 (l := beL M G) (List.take_of_length_le (by simp [beL_len]))
            have hcv2 := conv_blk (cap := q8 + 1) hst (l := 2 ^ r8 :: List.replicate q8 0) (List.take_of_length_le (by simp))
            rw [beL_len] at hcv1
            rw [show (2 ^ r8 :: List.replicate q8 0).length = q8 + 1 by simp] at hcv2
            have HM2 := Lib.hid (mul_any w9 (strOf (beL M G)) (strOf (2 ^ r8 :: List.replicate q8 0)) (by simp [strOf, ByteArray.size, beL_len]; exact hMl) (by simp [strOf, ByteArray.size]; omega))
            have hs1 : sval (strOf (beL M G)) = G := by
              rw [sval_beL, HM.out, ← pow_limb]
              exact Nat.mod_eq_of_lt HGl.out
            have hs2 : sval (strOf (2 ^ r8 :: List.replicate q8 0)) = 2 ^ nn := power_str (by rw [Hr8.out]) (by rw [Hq8.out])
            rw [hs1, hs2] at HM2
            have Hb9 := Lib.hid (Hbw.out.trans (hb9.mono Hbw.out.size))
            clear hst hBl9 hb9 hBp hBl hb4 hb3 hs1 hs2
            go_upto_region 25 with (fail)
            clear hc0 hf0 hWe
            go_wp2_with fail
            refine HM2.out.mono ?_
            rintro e w10 ⟨rfl, hb10⟩
            go_wp2
            go_ret
            exact ⟨ret_str (by rw [Nat.mul_comm, HG.out]), Hb9.out.trans (hb10.mono Hb9.out.size)⟩
end Go.Proofs.YtnnbnecpcppkdaaDoor
namespace Go.Proofs.YtnnbnecpcppkdaaDoor
open Go.RowKit Go.Gy
set_option linter.unusedVariables false
theorem natS_empty (n : Nat) : (natS n).toList.isEmpty = decide (n = 0) := by
  rw [ByteArray.toList_eq, natS_list, Bool.eq_iff_iff, List.isEmpty_iff, decide_eq_true_iff]
  exact natL_nil
theorem natS_zero : natS 0 = { data := #[] } := by unfold natS; rw [natL_zero]
theorem natS_mono {a b : Nat} (h : a ≤ b) : (natS a).size ≤ (natS b).size := by rw [natS_size, natS_size]; exact natL_len_mono h
def GRel (w : World) (G S N : Nat) (x y : Value) (wr : World) : Prop := ∃ u v, x = .string (natS u) ∧ y = .string (natS v) ∧ Hid (Nat.gcd u v = G) ∧ (natS u).size ≤ S ∧ (natS v).size ≤ S ∧ u + v ≤ N ∧ Below w.heap.size w wr
def GCut (w : World) (G S N : Nat) (x y : Value) (wr : World) : Prop := ∃ u v, x = .string (natS u) ∧ y = .string (natS v) ∧ Hid (Nat.gcd u v = G) ∧ (natS u).size ≤ S ∧ (natS v).size ≤ (natS u).size ∧ u + v ≤ N ∧ u ≠ 0 ∧ v ≠ 0 ∧ Below w.heap.size w wr
set_option maxRecDepth 100000 in
set_option maxHeartbeats 4000000 in
theorem gcd_any (w : World) (s t : ByteArray) (hs : s.size ≤ 8796093022208) (ht : t.size ≤ 8796093022208) (hT : Tab w) (hg : 1 < w.heap.size) :
    Calls Tryd.prog 115 #[.string s, .string t] w fun e w' => e = .returned (.string (natS (Nat.gcd (sval s) (sval t)))) ∧ Below w.heap.size w w' := by
  have H1 := Lib.hid (trim_any w s (by omega))
  have H2 := Lib.hid (trim_any w t (by omega))
  have hl1 := sval_trim_le s
  have hl2 := sval_trim_le t
  obtain ⟨A, hA⟩ : ∃ A, A = sval s := ⟨_, rfl⟩
  obtain ⟨B, hB⟩ : ∃ B, B = sval t := ⟨_, rfl⟩
  rw [← hA] at H1 hl1 ⊢
  rw [← hB] at H2 hl2 ⊢
  obtain ⟨G, hG⟩ : ∃ G, G = Nat.gcd A B := ⟨_, rfl⟩
  rw [← hG]
  have Hst := Lib.hid (show GRel w G 8796093022208 (A + B) (.string (natS A)) (.string (natS B)) w from ⟨A, B, rfl, rfl, Lib.hid hG.symm, by omega, by omega, Nat.le_refl _, Below.refl _ _⟩)
  have HT := Lib.hid (show ∀ w', Below w.heap.size w w' → Tab w' from fun w' hb => hT.below hb hg)
  obtain ⟨sa, hsa⟩ : ∃ s, s = natS A := ⟨_, rfl⟩
  obtain ⟨sb, hsb⟩ : ∃ s, s = natS B := ⟨_, rfl⟩
  rw [← hsa] at H1 Hst
  rw [← hsb] at H2 Hst
  clear hA hB hG hT hsa hsb hl1 hl2
  go_enter Tryd.func115, Tryd.ntmps115
  go_wp2_with fail
  refine H1.out.mono ?_
  rintro e w' ⟨rfl, rfl⟩
  go_wp2_with fail
  refine H2.out.mono ?_
  rintro e w' ⟨rfl, rfl⟩
  go_wp2_with fail
  go_loopg [0, 1] (A + B) (fun N x y wr => GRel w G 8796093022208 N x y wr)
  case atStart => exact Hst.out
  case round =>
    obtain ⟨u, v, rfl, rfl, HG, hsu, hsv, hN, hbw⟩ := hrel
    have eu := natS_empty u
    have ev := natS_empty v
    by_cases hu : u = 0
    · rw [decide_eq_true hu] at eu
      have eu2 : (!(natS u).toList.isEmpty) = false := by rw [eu]; rfl
      have HP := Lib.hid (show natS u ++ natS v = natS G by rw [← HG.out, hu, Nat.gcd_zero_left, natS_zero]; apply ByteArray.ext; simp)
      obtain ⟨a, ha⟩ : ∃ a, a = natS u := ⟨_, rfl⟩
      obtain ⟨b, hb⟩ : ∃ b, b = natS v := ⟨_, rfl⟩
      rw [← ha] at eu eu2 HP hsu ⊢
      rw [← hb] at ev HP hsv ⊢
      clear hu ha hb ev
      go_wp2
      go_ret
      exact ⟨ret_str HP.out, hbw⟩
    · rw [decide_eq_false hu] at eu
      have eu2 : (!(natS u).toList.isEmpty) = true := by rw [eu]; rfl
      by_cases hv : v = 0
      · rw [decide_eq_true hv] at ev
        have ev2 : (!(natS v).toList.isEmpty) = false := by rw [ev]; rfl
        have HP := Lib.hid (show natS u ++ natS v = natS G by rw [← HG.out, hv, Nat.gcd_zero_right, natS_zero]; apply ByteArray.ext; simp)
        obtain ⟨a, ha⟩ : ∃ a, a = natS u := ⟨_, rfl⟩
        obtain ⟨b, hb⟩ : ∃ b, b = natS v := ⟨_, rfl⟩
        rw [← ha] at eu eu2 HP hsu ⊢
        rw [← hb] at ev ev2 HP hsv ⊢
        clear hu hv ha hb
        go_wp2
        go_ret
        exact ⟨ret_str HP.out, hbw⟩
      · rw [decide_eq_false hv] at ev
        have ev2 : (!(natS v).toList.isEmpty) = true := by rw [ev]; rfl
        have HC1 := Lib.hid (show (natS v).size ≤ (natS u).size → GCut w G 8796093022208 gk (.string (natS u)) (.string (natS v)) wr from fun h => ⟨u, v, rfl, rfl, HG, hsu, h, hN, hu, hv, hbw⟩)
        have HC2 := Lib.hid (show (natS u).size ≤ (natS v).size → GCut w G 8796093022208 gk (.string (natS v)) (.string (natS u)) wr from fun h => ⟨v, u, rfl, rfl, Lib.hid (by rw [Nat.gcd_comm]; exact HG.out), hsv, h, by omega, hv, hu, hbw⟩)
        obtain ⟨a, ha⟩ : ∃ a, a = natS u := ⟨_, rfl⟩
        obtain ⟨b, hb⟩ : ∃ b, b = natS v := ⟨_, rfl⟩
        rw [← ha] at eu eu2 hsu HC1 HC2 ⊢
        rw [← hb] at ev ev2 hsv HC1 HC2 ⊢
        clear hu hv ha hb HG hN hbw
        go_upto_if 22 with (fail)
        go_cut [0, 1] (fun x y wx => GCut w G 8796093022208 gk x y wx)
        case first =>
          by_cases hab : a.size < b.size
          · go_wp2
            go_meet
            exact HC2.out (by omega)
          · go_wp2
            go_meet
            exact HC1.out (by omega)
        case rest =>
          obtain ⟨u, v, rfl, rfl, HG, hsu, hsv, hN, hu, hv, hbw⟩ := hcut
          have hz1 := natL_len_le u 8
          have hz2 := natL_len_le v 8
          rw [← natS_size] at hz1 hz2
          by_cases h8 : (natS u).size ≤ 8
          · have hu8 : u < 18446744073709551616 := hz1.mp h8
            have hv8 : v < 18446744073709551616 := hz2.mp (by omega)
            have S1 := Lib.hid (fun w => short_any w (natS u) h8)
            have S2 := Lib.hid (fun w => short_any w (natS v) (by omega))
            rw [sval_natS] at S1 S2
            have C1 := Lib.hid (fun w => common_any w u v hu8 hv8)
            rw [HG.out] at C1
            have hGl : G < 18446744073709551616 := by rw [← HG.out]; exact Nat.lt_of_le_of_lt (Nat.gcd_le_left _ (Nat.pos_of_ne_zero hu)) hu8
            have F1 := Lib.hid (fun w => fromShort_any w G hGl)
            obtain ⟨a, ha⟩ : ∃ a, a = natS u := ⟨_, rfl⟩
            obtain ⟨b, hb⟩ : ∃ b, b = natS v := ⟨_, rfl⟩
            rw [← ha] at S1 h8 hsv ⊢
            rw [← hb] at S2 hsv ⊢
            clear hz1 hz2 hsu hu hv ha hb HC1 HC2
            go_wp2_with fail
            refine (S1.out _).mono ?_
            rintro e w' ⟨rfl, rfl⟩
            go_wp2_with fail
            refine (S2.out _).mono ?_
            rintro e w' ⟨rfl, rfl⟩
            go_wp2_with fail
            refine (C1.out _).mono ?_
            rintro e w' ⟨rfl, q, rfl⟩
            go_wp2_with fail
            refine (F1.out _).mono ?_
            rintro e w' ⟨rfl, hb4⟩
            go_wp2
            go_ret
            have hbq := below_drewN hbw q
            exact ⟨rfl, hbq.trans (hb4.mono hbq.size)⟩
          · by_cases h9 : (natS u).size ≤ (natS v).size + 8
            · have H := Lib.hid (halves_any wc u v hu hv hsu (by omega) (HT.out wc hbw) (Nat.lt_of_lt_of_le hg hbw.size))
              rw [HG.out] at H
              have h9i : ((natS u).size : Int) ≤ ((natS v).size : Int) + 8 := by omega
              have hsv2 : (natS v).size ≤ 8796093022208 := by omega
              obtain ⟨a, ha⟩ : ∃ a, a = natS u := ⟨_, rfl⟩
              obtain ⟨b, hb⟩ : ∃ b, b = natS v := ⟨_, rfl⟩
              rw [← ha] at H h8 h9 hsu h9i ⊢
              rw [← hb] at H h9 hsv2 h9i ⊢
              clear hz1 hz2 hu hv ha hb HC1 HC2 hsv
              go_wp2_with fail
              refine H.out.mono ?_
              rintro e w' ⟨rfl, hb4⟩
              go_wp2
              go_ret
              exact ⟨rfl, hbw.trans (hb4.mono hbw.size)⟩
            · have hlt : v < u := by
                rcases Nat.lt_or_ge v u with h | h
                · exact h
                · have := natS_mono h; omega
              have hvp := Nat.pos_of_ne_zero hv
              have hml : u % v < v := Nat.mod_lt _ hvp
              have D := Lib.hid (div_any wc (natS u) (natS v) hsu (by omega))
              rw [sval_natS, sval_natS] at D
              have hD : divF u v = (u / v, u % v, 0) := by unfold divF; rw [if_neg hv]
              have D' := Lib.hid (show Calls Tryd.prog 116 #[.string (natS u), .string (natS v)] wc fun e w' => e = .returned (.tuple #[.string (natS (u / v)), .string (natS (u % v)), .int .i64 0]) ∧ Below wc.heap.size wc w' from D.out.mono fun e w' h => by
                obtain ⟨h1, h2⟩ := h
                rw [hD] at h1
                exact ⟨h1, h2⟩)
              have HP := Lib.hid (show ∀ w', Below wc.heap.size wc w' → GRel w G 8796093022208 (gk - 1) (.string (natS v)) (.string (natS (u % v))) w' from fun w' hb => ⟨v, u % v, rfl, rfl, Lib.hid (by rw [gcd_step hvp]; exact HG.out), by omega, by have := natS_mono (Nat.le_of_lt hml); omega, by omega, hbw.trans (hb.mono hbw.size)⟩)
              have hgk : gk - 1 < gk := by omega
              have h9i : ¬ ((natS u).size : Int) ≤ ((natS v).size : Int) + 8 := by omega
              have hsv2 : (natS v).size ≤ 8796093022208 := by omega
              obtain ⟨a, ha⟩ : ∃ a, a = natS u := ⟨_, rfl⟩
              obtain ⟨b, hb⟩ : ∃ b, b = natS v := ⟨_, rfl⟩
              obtain ⟨c, hc⟩ : ∃ c, c = natS (u % v) := ⟨_, rfl⟩
              obtain ⟨d, hd⟩ : ∃ c, c = natS (u / v) := ⟨_, rfl⟩
              rw [← ha] at D' h8 h9 hsu h9i ⊢
              rw [← hb] at D' HP h9 hsv2 h9i ⊢
              rw [← hc] at D' HP
              rw [← hd] at D'
              clear hz1 hz2 hu hv ha hb hc hd HC1 HC2 hsv hD D hlt hvp hml
              go_wp2_with fail
              refine D'.out.mono ?_
              rintro e w' ⟨rfl, hb4⟩
              go_wp2
              go_roundg (gk - 1)
              case measure => exact hgk
              case rel => exact HP.out _ hb4
end Go.Proofs.YtnnbnecpcppkdaaDoor
