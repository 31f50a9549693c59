/- nat.common, nat.limbs, nat.cut: what the greatest common divisor needs. Conditions: those typed. -/
import Derived.Test.YthmgcbpmfipfiaaDoorNatI
namespace Go.Proofs.YthmgcbpmfipfiaaDoor
open Go.RowKit Go.Gy
set_option linter.unusedVariables false
def lvn (n : Nat) : Value := .int .u64 n
theorem digs64_get (m n j : Nat) (h : j < m) : (digs 18446744073709551616 m n)[j]? = some (n / 18446744073709551616 ^ j % 18446744073709551616) := digs_get _ _ _ _ h
theorem updN_dig {B X j v : Nat} (hB : 0 < B) (hv : v < B) (i : Nat) : updN B X j v / B ^ i % B = if i = j then v else X / B ^ i % B := by
  have h := updN_digs (m := i + j + 1) (N := X) (j := j) hB (by omega) hv
  have h1 : ((digs B (i + j + 1) X).set j v)[i]? = some (if i = j then v else X / B ^ i % B) := by
    rw [List.getElem?_set, digs_get _ _ _ _ (by omega), digs_len]
    by_cases e : j = i
    · subst e; rw [if_pos rfl, if_pos (by omega), if_pos rfl]
    · rw [if_neg e, if_neg (fun h => e h.symm)]
  rw [h, digs_get _ _ _ _ (by omega)] at h1
  exact Option.some.inj h1
/-- n cells of block g, from o on, are the digits of X -/
def Lim (w : World) (g o n X : Nat) : Prop := ∃ cs : Array Value, Blk w g 133 cs ∧ ∀ j, j < n → cs[o + j]? = some (lvn (X / 18446744073709551616 ^ j % 18446744073709551616))
section
variable {w w' : World} {g o n X : Nat}
theorem Lim.lt (h : Lim w g o n X) : g < w.heap.size := by obtain ⟨cs, h, _⟩ := h; exact h.lt
theorem Lim.cell (h : Lim w g o n X) {j : Nat} (hj : j < n) : w.cell? ⟨g, o + j, none⟩ = some (.int .u64 ((X / 18446744073709551616 ^ j % 18446744073709551616 : Nat) : Int)) := by
  obtain ⟨cs, h1, h2⟩ := h
  exact h1.cell _ _ (h2 j hj)
theorem Lim.free (h : Lim w g o n X) (i : Nat) : w.frozen? ⟨g, i, none⟩ = false := by obtain ⟨cs, h, _⟩ := h; exact h.free i
theorem Lim.drew (h : Lim w g o n X) : Lim w.drew g o n X := h
theorem Lim.drewN (h : Lim w g o n X) (k : Nat) : Lim (w.drewN k) g o n X := h
theorem Lim.set (h : Lim w g o n X) {j v : Nat} (hv : v < 18446744073709551616) (hj : j < n) : Lim (w.setCell ⟨g, o + j, none⟩ (lvn v)) g o n (updN 18446744073709551616 X j v) := by
  obtain ⟨cs, h1, h2⟩ := h
  refine ⟨_, h1.set (o + j) (lvn v), fun i hi => ?_⟩
  rw [updN_dig (by omega) hv]
  have hs := (Array.getElem?_eq_some_iff.1 (h2 j hj)).1
  rw [Array.getElem?_setIfInBounds]
  by_cases e : i = j
  · subst e
    rw [if_pos rfl, if_pos hs, if_pos rfl]
  · rw [if_neg (by omega), if_neg e]
    exact h2 i hi
theorem Lim.sub (h : Lim w g o n X) (k : Nat) (hk : k ≤ n) : Lim w g (o + k) (n - k) (X / 18446744073709551616 ^ k) := by
  obtain ⟨cs, h1, h2⟩ := h
  refine ⟨cs, h1, fun j hj => ?_⟩
  rw [Nat.div_div_eq_div_mul, ← Nat.pow_add, Nat.add_assoc]
  exact h2 (k + j) (by omega)
theorem Lim.take (h : Lim w g o n X) {m : Nat} (hm : m ≤ n) : Lim w g o m X := by
  obtain ⟨cs, h1, h2⟩ := h
  exact ⟨cs, h1, fun j hj => h2 j (by omega)⟩
theorem Lim.chg {g' : Nat} (h : Lim w g o n X) (hc : Chg g' w w') (hne : g ≠ g') : Lim w' g o n X := by
  obtain ⟨cs, h1, h2⟩ := h
  exact ⟨cs, hc.blk h1 hne, h2⟩
theorem Lim.below {B : Nat} (h : Lim w g o n X) (hb : Below B w w') (hg : g < B) : Lim w' g o n X := by
  obtain ⟨cs, h1, h2⟩ := h
  exact ⟨cs, h1.below hb hg, h2⟩
theorem Lim.eq {X' : Nat} (h : Lim w g o n X) (e : X = X') : Lim w g o n X' := e ▸ h
theorem Lim.of (hB : Blk w g 133 ((digs 18446744073709551616 n X).map lvn).toArray) : Lim w g 0 n X :=
  ⟨_, hB, fun j hj => by rw [Nat.zero_add]; simp [digs_get _ _ _ _ hj]⟩
end
set_option maxRecDepth 100000 in
set_option maxHeartbeats 1000000 in
theorem common_any (w : World) (x y : Nat) (hx : x < 18446744073709551616) (hy : y < 18446744073709551616) :
    Calls Tryd.prog 109 #[.int .u64 x, .int .u64 y] w fun e w' => e = .returned (.int .u64 ((Nat.gcd x y : Nat) : Int)) ∧ ∃ q, w' = w.drewN q := by
  go_enter Tryd.func109, Tryd.ntmps109
  go_wp2
  go_loopw [0, 1] (fun a b wr => ∃ u v q : Nat, a = .int .u64 u ∧ b = .int .u64 v ∧ u < 18446744073709551616 ∧ v < 18446744073709551616 ∧ Hid (Nat.gcd u v = Nat.gcd x y) ∧ wr = w.drewN q) (fun _ b _ => (intOf b).toNat)
  case atStart => exact ⟨x, y, 0, rfl, rfl, hx, hy, Lib.hid rfl, rfl⟩
  case round =>
    obtain ⟨u, v, q, rfl, rfl, hu, hv, HG, rfl⟩ := hrel
    by_cases hv0 : 0 < v
    · have hvi : (0 : Int) < (v : Int) := by omega
      have e5 : ((v : Int) == 0) = false := by simp; omega
      obtain ⟨r, hr⟩ : ∃ r, r = u % v := ⟨_, rfl⟩
      have hrl : r < v := by rw [hr]; exact Nat.mod_lt _ hv0
      have e2 : (u : Int).tmod (v : Int) = (r : Int) := by rw [hr]; rfl
      have e4 : (u : Int) % (v : Int) = (r : Int) := by rw [hr]; rfl
      have e6 : IntKind.u64.wrap (r : Int) = r := by rw [IntKind.wrap_u64]; omega
      have HG2 := Lib.hid (show Nat.gcd v r = Nat.gcd x y by rw [hr, gcd_step hv0, HG.out])
      clear hr
      go_wp2
      go_quiet (fail)
      go_wp2
      go_roundw
      case rel => exact ⟨v, r, _, rfl, rfl, hv, by omega, HG2, by rw [World.drewN_drewN]⟩
      case measure => simp [intOf]; omega
    · obtain rfl : v = 0 := by omega
      go_wp2
      go_ret
      exact ⟨ret_int (by rw [← HG.out, Nat.gcd_zero_right]), q, rfl⟩
theorem info_u64 : (Tryd.prog.info? 133).map (fun i => (i.zero, i.size, i.bytes)) = some (some (.int .u64 0), 1, 8) := by kernel_rfl
theorem make_u64 (n : Nat) (hn : n ≤ 17592186044416) (W : World) : (Instr.makeSlice 156 (.int .i64 (n : Int)) (.int .i64 (n : Int))).run Tryd.prog W = .ok (.slice (some ⟨W.heap.size, 0, none⟩) n n) (W.alloc (.cells ((List.replicate n 0).map lvn).toArray 133)) := by
  obtain ⟨i0, hi, hz0, hz1, hz2⟩ := info_parts info_u64
  have h := run_make (P := Tryd.prog) W 156 133 i0 (.int .u64 0) Tryd.underlying156 hi hz0 .i64 .i64 (n : Int) (n : Int) (by omega) (Int.le_refl _) (by rw [hz2]; omega) (by omega)
  rw [Int.toNat_natCast, hz1, Nat.mul_one] at h
  rw [show (Value.int .u64 0).cells = #[lvn 0] from rfl, made_reps] at h
  exact h
def LRel (w : World) (m N L : Nat) (i : Value) (wr : World) : Prop := ∃ k : Nat, k ≤ L ∧ i = .int .i64 k ∧ Blk wr w.heap.size 133 ((digs 18446744073709551616 m (N % 256 ^ k)).map lvn).toArray ∧ Below w.heap.size w wr
def LimbsPost (w : World) (N : Nat) (e : Ending) (w' : World) : Prop := ∃ G, e = .returned (.slice (some ⟨G, 0, none⟩) (llen N) (llen N)) ∧ w.heap.size ≤ G ∧ Blk w' G 133 ((digs 18446744073709551616 (llen N) N).map lvn).toArray ∧ Below w.heap.size w w'
set_option maxRecDepth 100000 in
set_option maxHeartbeats 1000000 in
theorem limbs_any (w : World) (N : Nat) (hs : (natS N).size ≤ 35184372088832) :
    Calls Tryd.prog 116 #[.string (natS N)] w (LimbsPost w N) := by
  have hwl : llen N = ((natS N).size + 7) / 8 := by rw [natS_size]; rfl
  obtain ⟨m, hm⟩ : ∃ m, m = llen N := ⟨_, rfl⟩
  rw [← hm] at hwl
  have Hm := Lib.hid hm
  clear hm
  obtain ⟨t, ht⟩ : ∃ t, t = natS N := ⟨_, rfl⟩
  rw [← ht] at hs hwl ⊢
  have Hby := Lib.hid (show ∀ k (h : k < t.size), (t[t.size - 1 - k]'(by omega)).toNat = N / 256 ^ k % 256 by subst ht; exact natS_byte N)
  have Htn := Lib.hid ht
  clear ht
  have hq : ((t.size : Int) + 7) / 8 = (m : Int) := by omega
  have hmk := make_u64 m (by omega) w
  have Hwl := Lib.hid hwl
  clear hwl
  go_enter Tryd.func116, Tryd.ntmps116
  go_wp2
  simp only [hq]
  go_loopw [12] (fun i wr => LRel w m N t.size i wr) (fun i _ => t.size - (intOf i).toNat)
  case atStart =>
    refine ⟨0, Nat.zero_le _, rfl, ?_, (Below.refl _ _).alloc (Nat.le_refl _) _⟩
    rw [Nat.pow_zero, Nat.mod_one, digs_zero]
    have := Blk.new w 133 ((List.replicate m 0).map lvn).toArray
    simpa using this
  case round =>
    obtain ⟨k, hk, rfl, hB, hb⟩ := hrel
    by_cases hlt : k < t.size
    · obtain ⟨q, hq4⟩ : ∃ q, q = k / 8 := ⟨_, rfl⟩
      obtain ⟨r, hr4⟩ : ∃ r, r = k % 8 := ⟨_, rfl⟩
      have hqm : q < m := by have := Hwl.out; omega
      have hqi : ((k : Int)) / 8 = (q : Int) := by omega
      have hri : ((k : Int)).tmod 8 = (r : Int) := by rw [Int.tmod_eq_emod_of_nonneg (by omega)]; omega
      have hr : r < 8 := by omega
      have w1 : IntKind.i64.wrap (q : Int) = q := by rw [IntKind.wrap_i64]; omega
      have w2 : IntKind.i64.wrap (r : Int) = r := by rw [IntKind.wrap_i64]; omega
      have w3 : IntKind.i64.wrap ((r : Int) * 8) = (r : Int) * 8 := by rw [IntKind.wrap_i64]; omega
      obtain ⟨d, hd⟩ : ∃ d, d = N % 256 ^ k / 18446744073709551616 ^ q % 18446744073709551616 := ⟨_, rfl⟩
      have hc := hB.cell q (.int .u64 (d : Int)) (by simp [digs64_get m (N % 256 ^ k) q hqm, hd, lvn])
      have hf := hB.free q
      obtain ⟨j, hj⟩ : ∃ j, j = t.size - 1 - k := ⟨_, rfl⟩
      have hji : (t.size : Int) - 1 - (k : Int) = (j : Int) := by omega
      have hjl : j < t.size := by omega
      have w8 : IntKind.i64.wrap (j : Int) = j := by rw [IntKind.wrap_i64]; omega
      have w9 : IntKind.i64.wrap ((t.size : Int) - 1) = (t.size : Int) - 1 := by rw [IntKind.wrap_i64]; omega
      have hx : (t[j]'hjl).toNat = N / 256 ^ k % 256 := by subst hj; exact Hby.out k hlt
      obtain ⟨c, hcc⟩ : ∃ c, c = N / 256 ^ k % 256 := ⟨_, rfl⟩
      rw [← hcc] at hx
      have hc8 : c < 256 := by rw [hcc]; exact Nat.mod_lt _ (by omega)
      have w4 : IntKind.u64.wrap (c : Int) = c := by rw [IntKind.wrap_u64]; omega
      have hkq : (256 : Nat) ^ k = 18446744073709551616 ^ q * 256 ^ r := by rw [pow_limb, ← Nat.pow_add]; congr 1; omega
      have hdr : N % 256 ^ k / 18446744073709551616 ^ q < 256 ^ r := by
        rw [Nat.div_lt_iff_lt_mul (Nat.pow_pos (by omega)), Nat.mul_comm, ← hkq]
        exact Nat.mod_lt _ (Nat.pow_pos (by omega))
      have hr3 : (256 : Nat) ^ r ≤ 72057594037927936 := Nat.le_trans (Nat.pow_le_pow_right (by omega) (show r ≤ 7 by omega)) (by decide)
      have hd2 : d = N % 256 ^ k / 18446744073709551616 ^ q := by rw [hd]; exact Nat.mod_eq_of_lt (by omega)
      have hd3 : d < 256 ^ r := by omega
      obtain ⟨z, hz2⟩ : ∃ z, z = c * 256 ^ r := ⟨_, rfl⟩
      have hzl : z < 18446744073709551616 := by
        rw [hz2]
        have : c * 256 ^ r ≤ 255 * 256 ^ r := Nat.mul_le_mul_right _ (by omega)
        omega
      have w5 : IntKind.u64.wrap ((c : Int) * 2 ^ ((r : Int) * 8).toNat) = ((z : Nat) : Int) := by
        have e : ((r : Int) * 8).toNat = 8 * r := by omega
        have e2 : ((c : Int) * 2 ^ (8 * r)) = ((c * 256 ^ r : Nat) : Int) := by
          rw [show (256 : Nat) = 2 ^ 8 from rfl, ← Nat.pow_mul]
          simp
        rw [e, e2, ← hz2, IntKind.wrap_u64]
        omega
      have w6 : bits .or .u64 (d : Int) (z : Int) = ((d + z : Nat) : Int) := by
        rw [u64_or d z (by omega) hzl]
        congr 1
        rw [hz2, Nat.mul_comm, show (256 : Nat) ^ r = 2 ^ (8 * r) by rw [Nat.pow_mul], Nat.or_comm, or_add _ _ _ (by rw [Nat.pow_mul]; exact hd3)]
        omega
      have hdz : d + z < 18446744073709551616 := by
        have h1 : c * 256 ^ r ≤ 255 * 256 ^ r := Nat.mul_le_mul_right _ (by omega)
        omega
      have hset := digs_upd (B := 18446744073709551616) (m := m) (N := N % 256 ^ k) (N' := N % 256 ^ (k + 1)) (j := q) (v := d + z) (by omega) hqm hdz (by
        rw [← hd, mod_succ, ← hcc, hkq, hz2]
        grind)
      have Hst := Lib.hid (blk_setn hB q (d + z))
      rw [hset] at Hst
      have Hcc := Lib.hid hcc
      clear hB hset hz2 hdz hd2 hd hkq hdr hq4 hr4
      have Hj := Lib.hid hj
      clear hj hcc
      go_wp2
      have hb2 : Below w.heap.size w wr.drew := hb.drew
      have hc2 : wr.drew.cell? ⟨w.heap.size, q, none⟩ = some (.int .u64 (d : Int)) := hc
      have hf2 : wr.drew.frozen? ⟨w.heap.size, q, none⟩ = false := hf
      have Hst2 : Hid (Blk (wr.drew.setCell ⟨w.heap.size, q, none⟩ (lvn (d + z))) w.heap.size 133 ((digs 18446744073709551616 m (N % 256 ^ (k + 1))).map lvn).toArray) := Lib.hid (Hst.out)
      go_still_tail 19, (by kernel_rfl)
      change wpList _ _ _ _ _ wr.drew
      generalize wr.drew = w2 at hb2 hc2 hf2 Hst2 ⊢
      clear hc hf hb
      go_wp2
      go_roundw
      case rel => exact ⟨k + 1, by omega, by go_num, Hst2.out, hb2.setCell (Nat.le_refl _) _⟩
      case measure => simp [intOf]; omega
    · obtain rfl : k = t.size := by omega
      have Hl := Lib.hid (show N % 256 ^ t.size = N from by
        apply Nat.mod_eq_of_lt
        rw [Htn.out, natS_size, ← natL_len_le]
        exact Nat.le_refl _)
      go_wp2
      go_ret
      refine ⟨w.heap.size, by rw [← Hm.out]; rfl, Nat.le_refl _, ?_, hb⟩
      rw [Hl.out] at hB
      rw [← Hm.out]
      exact hB
end Go.Proofs.YthmgcbpmfipfiaaDoor
