/- nat.words, nat.text: a number as digits of 32 bits, and back. Conditions: those typed. -/
import Derived.Test.YthmgcbpmfipfiaaDoorNatA
import Derived.StillTailTactics
namespace Go.Proofs.YthmgcbpmfipfiaaDoor
open Go.RowKit Go.Gy
set_option linter.unusedVariables false
def wvn (n : Nat) : Value := .int .u32 n
theorem info_u32 : (Tryd.prog.info? 137).map (fun i => (i.zero, i.size, i.bytes)) = some (some (.int .u32 0), 1, 4) := by kernel_rfl
theorem u32_or (a b : Nat) (ha : a < 4294967296) (hb : b < 4294967296) : bits .or .u32 (a : Int) (b : Int) = ((a ||| b : Nat) : Int) := by
  have hx : a ||| b < 2 ^ 32 := Nat.or_lt_two_pow (by omega) (by omega)
  have h0 : ∀ x : Nat, x < 4294967296 → (BitVec.ofInt 32 (x : Int)).toNat = x := fun x hx => by
    rw [BitVec.ofInt_natCast, BitVec.toNat_ofNat]; exact Nat.mod_eq_of_lt (by omega)
  have h1 := h0 a ha
  have h2 := h0 b hb
  show IntKind.u32.wrap ((BitVec.ofInt 32 (a : Int) ||| BitVec.ofInt 32 (b : Int)).toNat : Int) = _
  rw [BitVec.toNat_or, h1, h2, IntKind.wrap_u32]
  omega
theorem made_reps (f : Nat → Value) (n : Nat) : madeCells #[f 0] n = ((List.replicate n 0).map f).toArray := by
  apply Array.toList_inj.mp
  rw [toList_madeCells_one]
  simp
theorem make_u32 (n : Nat) (hn : n ≤ 35184372088832) (W : World) : (Instr.makeSlice 135 (.int .i64 (n : Int)) (.int .i64 (n : Int))).run Tryd.prog W = .ok (.slice (some ⟨W.heap.size, 0, none⟩) n n) (W.alloc (.cells ((List.replicate n 0).map wvn).toArray 137)) := by
  obtain ⟨i0, hi, hz0, hz1, hz2⟩ := info_parts info_u32
  have h := run_make (P := Tryd.prog) W 135 137 i0 (.int .u32 0) Tryd.underlying135 hi hz0 .i64 .i64 (n : Int) (n : Int) (by omega) (Int.le_refl _) (by rw [hz2]; omega) (by omega)
  rw [Int.toNat_natCast, hz1, Nat.mul_one] at h
  rw [show (Value.int .u32 0).cells = #[wvn 0] from rfl, made_reps] at h
  exact h
def WRel (w : World) (G m N L : Nat) (i : Value) (wr : World) : Prop := ∃ k : Nat, k ≤ L ∧ i = .int .i64 k ∧ Blk wr G 137 ((digs 4294967296 m (N % 256 ^ k)).map wvn).toArray ∧ Below w.heap.size w wr
def WordsPost (w : World) (N : Nat) (e : Ending) (w' : World) : Prop := ∃ G, e = .returned (.slice (some ⟨G, 0, none⟩) (wlen N) (wlen N)) ∧ w.heap.size ≤ G ∧ Blk w' G 137 ((digs 4294967296 (wlen N) N).map wvn).toArray ∧ Below w.heap.size w w'
theorem natL_byte (n k : Nat) (h : k < (natL n).length) : ((natL n)[(natL n).length - 1 - k]'(by omega)).toNat = n / 256 ^ k % 256 := by
  induction k generalizing n with
  | zero =>
    have hn : n ≠ 0 := fun e => by rw [e, natL_zero] at h; cases h
    simp only [natL_pos hn]
    simp
  | succ k ih =>
    have hn : n ≠ 0 := fun e => by rw [e, natL_zero] at h; cases h
    have e := natL_pos hn
    have hl : (natL n).length = (natL (n / 256)).length + 1 := by rw [e]; simp
    have h1 := ih (n / 256) (by omega)
    rw [Nat.div_div_eq_div_mul, Nat.mul_comm, ← Nat.pow_succ] at h1
    rw [← h1]
    congr 1
    have h2 : (natL n)[(natL n).length - 1 - (k + 1)]? = (natL (n / 256))[(natL (n / 256)).length - 1 - k]? := by
      rw [hl, e, List.getElem?_append_left (by omega)]
      congr 1
      omega
    rw [List.getElem?_eq_getElem (by omega), List.getElem?_eq_getElem (by omega)] at h2
    exact Option.some.inj h2
theorem natS_byte (n k : Nat) (h : k < (natS n).size) : ((natS n)[(natS n).size - 1 - k]'(by omega)).toNat = n / 256 ^ k % 256 := by
  have hz := natS_size n
  have := natL_byte n k (by omega)
  rw [← this]
  have h1 : ∀ j (hj : j < (natS n).size), (natS n)[j] = (natL n)[j]'(by omega) := by
    intro j hj
    show (natS n).data[j] = _
    simp [natS]
  rw [h1]
  simp only [hz]
set_option maxRecDepth 100000 in
set_option maxHeartbeats 1000000 in
theorem words_any (w : World) (s : ByteArray) (hs : s.size ≤ 35184372088832) :
    Calls Tryd.prog 98 #[.string s] w (WordsPost w (sval s)) := by
  have Ht := Lib.hid (trim_any w s (by omega))
  obtain ⟨N, hN⟩ : ∃ N, N = sval s := ⟨_, rfl⟩
  have hz : (natS N).size ≤ 35184372088832 := by
    rw [natS_size, hN]
    have h1 := natL_len_le (sval s) s.size
    have h2 := bval_lt s.data.toList
    have h3 : s.data.toList.length = s.size := by simp
    rw [h3] at h2
    exact Nat.le_trans (h1.mpr h2) hs
  have hwl : wlen N = ((natS N).size + 3) / 4 := by rw [natS_size]; rfl
  rw [← hN] at Ht ⊢
  obtain ⟨m, hm⟩ : ∃ m, m = wlen N := ⟨_, rfl⟩
  rw [← hm] at hwl
  have Hm := Lib.hid hm
  clear hN hm
  obtain ⟨t, ht⟩ : ∃ t, t = natS N := ⟨_, rfl⟩
  rw [← ht] at Ht hz hwl
  have Hby := Lib.hid (show ∀ k (h : k < t.size), (t[t.size - 1 - k]'(by omega)).toNat = N / 256 ^ k % 256 by subst ht; exact natS_byte N)
  have Htn := Lib.hid ht
  clear ht
  have hq : ((t.size : Int) + 3) / 4 = (m : Int) := by omega
  have hmk := make_u32 m (by omega) w
  have Hwl := Lib.hid hwl
  clear hwl
  go_enter Tryd.func98, Tryd.ntmps98
  go_wp2_with fail
  refine Ht.out.mono ?_
  rintro e w' ⟨rfl, rfl⟩
  go_wp2
  simp only [hq]
  go_loopw [15] (fun i wr => WRel w w.heap.size m N t.size i wr) (fun i _ => t.size - (intOf i).toNat)
  case atStart =>
    refine ⟨0, Nat.zero_le _, rfl, ?_, (Below.refl _ _).alloc (Nat.le_refl _) _⟩
    rw [Nat.pow_zero, Nat.mod_one, digs_zero]
    have := Blk.new w 137 ((List.replicate m 0).map wvn).toArray
    simpa using this
  case round =>
    obtain ⟨k, hk, rfl, hB, hb⟩ := hrel
    by_cases hlt : k < t.size
    · obtain ⟨q, hq4⟩ : ∃ q, q = k / 4 := ⟨_, rfl⟩
      obtain ⟨r, hr4⟩ : ∃ r, r = k % 4 := ⟨_, rfl⟩
      have hqm : q < m := by have := Hwl.out; omega
      have hqi : ((k : Int)) / 4 = (q : Int) := by omega
      have hri : ((k : Int)).tmod 4 = (r : Int) := by rw [Int.tmod_eq_emod_of_nonneg (by omega)]; omega
      have hr : r < 4 := by omega
      have w1 : IntKind.i64.wrap (q : Int) = q := by rw [IntKind.wrap_i64]; omega
      have w2 : IntKind.i64.wrap (r : Int) = r := by rw [IntKind.wrap_i64]; omega
      have w3 : IntKind.i64.wrap ((r : Int) * 8) = (r : Int) * 8 := by rw [IntKind.wrap_i64]; omega
      obtain ⟨d, hd⟩ : ∃ d, d = N % 256 ^ k / 4294967296 ^ q % 4294967296 := ⟨_, rfl⟩
      have hc := hB.cell q (.int .u32 (d : Int)) (by simp [digs_get 4294967296 m (N % 256 ^ k) q hqm, hd, wvn])
      have hf := hB.free q
      obtain ⟨j, hj⟩ : ∃ j, j = t.size - 1 - k := ⟨_, rfl⟩
      have hji : (t.size : Int) - 1 - (k : Int) = (j : Int) := by omega
      have hjl : j < t.size := by omega
      have hx : (t[j]'hjl).toNat = N / 256 ^ k % 256 := by subst hj; exact Hby.out k hlt
      obtain ⟨c, hcc⟩ : ∃ c, c = N / 256 ^ k % 256 := ⟨_, rfl⟩
      rw [← hcc] at hx
      have hc8 : c < 256 := by rw [hcc]; exact Nat.mod_lt _ (by omega)
      have w4 : IntKind.u32.wrap (c : Int) = c := by rw [IntKind.wrap_u32]; omega
      have hkq : (256 : Nat) ^ k = 4294967296 ^ q * 256 ^ r := by rw [pow_word, ← Nat.pow_add]; congr 1; omega
      have hdr : N % 256 ^ k / 4294967296 ^ q < 256 ^ r := by
        rw [Nat.div_lt_iff_lt_mul (Nat.pow_pos (by omega)), Nat.mul_comm, ← hkq]
        exact Nat.mod_lt _ (Nat.pow_pos (by omega))
      have hr3 : (256 : Nat) ^ r ≤ 16777216 := by
        have : r = 0 ∨ r = 1 ∨ r = 2 ∨ r = 3 := by omega
        rcases this with rfl | rfl | rfl | rfl <;> decide
      have hd2 : d = N % 256 ^ k / 4294967296 ^ q := by rw [hd]; exact Nat.mod_eq_of_lt (by omega)
      have hd3 : d < 256 ^ r := by omega
      obtain ⟨z, hz2⟩ : ∃ z, z = c * 256 ^ r := ⟨_, rfl⟩
      have hzl : z < 4294967296 := by
        rw [hz2]
        have : c * 256 ^ r ≤ 255 * 256 ^ r := Nat.mul_le_mul_right _ (by omega)
        omega
      have w5 : IntKind.u32.wrap ((c : Int) * 2 ^ ((r : Int) * 8).toNat) = ((z : Nat) : Int) := by
        have e : ((r : Int) * 8).toNat = 8 * r := by omega
        have e2 : ((c : Int) * 2 ^ (8 * r)) = ((c * 256 ^ r : Nat) : Int) := by
          rw [show (256 : Nat) = 2 ^ 8 from rfl, ← Nat.pow_mul]
          simp
        rw [e, e2, ← hz2, IntKind.wrap_u32]
        omega
      have w6 : bits .or .u32 (d : Int) (z : Int) = ((d + z : Nat) : Int) := by
        rw [u32_or d z (by omega) hzl]
        congr 1
        rw [hz2, Nat.mul_comm, show (256 : Nat) ^ r = 2 ^ (8 * r) by rw [Nat.pow_mul], Nat.or_comm, or_add _ _ _ (by rw [Nat.pow_mul]; exact hd3)]
        omega
      have hdz : d + z < 4294967296 := by
        have h1 : c * 256 ^ r ≤ 255 * 256 ^ r := Nat.mul_le_mul_right _ (by omega)
        omega
      have hset := digs_upd (B := 4294967296) (m := m) (N := N % 256 ^ k) (N' := N % 256 ^ (k + 1)) (j := q) (v := d + z) (by omega) hqm hdz (by
        rw [← hd, mod_succ, ← hcc, hkq, hz2]
        grind)
      have Hst := Lib.hid (blk_setn hB q (d + z))
      rw [hset] at Hst
      have Hcc := Lib.hid hcc
      clear hB hset hz2 hdz hd2 hd hkq hdr hq4 hr4
      have Hj := Lib.hid hj
      clear hj hcc
      go_wp2
      have hb2 : Below w.heap.size w wr.drew := hb.drew
      have hc2 : wr.drew.cell? ⟨w.heap.size, q, none⟩ = some (.int .u32 (d : Int)) := hc
      have hf2 : wr.drew.frozen? ⟨w.heap.size, q, none⟩ = false := hf
      have Hst2 : Hid (Blk (wr.drew.setCell ⟨w.heap.size, q, none⟩ (wvn (d + z))) w.heap.size 137 ((digs 4294967296 m (N % 256 ^ (k + 1))).map wvn).toArray) := Lib.hid (Hst.out)
      go_still_tail 15, (by kernel_rfl)
      change wpList _ _ _ _ _ wr.drew
      generalize wr.drew = w2 at hb2 hc2 hf2 Hst2 ⊢
      clear hc hf hb
      go_wp2
      go_roundw
      case rel => exact ⟨k + 1, by omega, by go_num, Hst2.out, hb2.setCell (Nat.le_refl _) _⟩
      case measure => simp [intOf]; omega
    · obtain rfl : k = t.size := by omega
      have Hl := Lib.hid (show N % 256 ^ t.size = N from by
        apply Nat.mod_eq_of_lt
        rw [Htn.out, natS_size, ← natL_len_le]
        exact Nat.le_refl _)
      go_wp2
      go_ret
      refine ⟨w.heap.size, by rw [← Hm.out]; rfl, Nat.le_refl _, ?_, hb⟩
      rw [Hl.out] at hB
      rw [← Hm.out]
      exact hB
theorem digs_new {B m N j v : Nat} (hB : 0 < B) (hj : j < m) (hv : v < B) (h0 : N / B ^ j % B = 0) : (digs B m N).set j v = digs B m (N + B ^ j * v) :=
  digs_upd hB hj hv (by rw [h0]; rfl)
theorem rev_set {l : List Nat} {p j v : Nat} (h : p + j + 1 = l.length) : l.reverse.set p v = (l.set j v).reverse := by
  apply List.ext_getElem?
  intro i
  by_cases hi : i < l.length
  · rw [List.getElem?_reverse (by simpa using hi), List.getElem?_set, List.getElem?_set, List.getElem?_reverse hi]
    simp only [List.length_reverse, List.length_set]
    by_cases hp : p = i
    · subst hp
      rw [if_pos rfl, if_pos (by omega), if_pos (by omega), if_pos (by omega)]
    · rw [if_neg hp, if_neg (by omega)]
  · rw [List.getElem?_eq_none (by simp; omega), List.getElem?_eq_none (by simp; omega)]
theorem four_zero {X j b i : Nat} (hX : X < 256 ^ i) (hj : i ≤ j) : (X + 256 ^ (j + 1) * b) / 256 ^ j % 256 = 0 := by
  have h1 : X < 256 ^ j := Nat.lt_of_lt_of_le hX (Nat.pow_le_pow_right (by omega) hj)
  rw [Nat.pow_succ, Nat.mul_assoc, low_div h1]
  omega
/-- four bytes of a word are written, the most significant first -/
theorem four_set {M p i X b0 b1 b2 b3 : Nat} (hM : p + 4 + i = M) (hX : X < 256 ^ i) (h0 : b0 < 256) (h1 : b1 < 256) (h2 : b2 < 256) (h3 : b3 < 256) :
    ((((beL M X).set p b3).set (p + 1) b2).set (p + 2) b1).set (p + 3) b0 = beL M (X + 256 ^ i * (b0 + 256 * b1 + 65536 * b2 + 16777216 * b3)) := by
  unfold beL
  have e3 : (digs 256 M X).set (i + 3) b3 = digs 256 M (X + 256 ^ (i + 3) * b3) := digs_new (by omega) (by omega) h3 (by
    rw [Nat.div_eq_of_lt (Nat.lt_of_lt_of_le hX (Nat.pow_le_pow_right (by omega) (by omega)))])
  have e2 : (digs 256 M (X + 256 ^ (i + 3) * b3)).set (i + 2) b2 = digs 256 M (X + 256 ^ (i + 3) * b3 + 256 ^ (i + 2) * b2) := digs_new (by omega) (by omega) h2 (four_zero hX (by omega))
  have e1 : (digs 256 M (X + 256 ^ (i + 3) * b3 + 256 ^ (i + 2) * b2)).set (i + 1) b1 = digs 256 M (X + 256 ^ (i + 3) * b3 + 256 ^ (i + 2) * b2 + 256 ^ (i + 1) * b1) := digs_new (by omega) (by omega) h1 (by
    have : X + 256 ^ (i + 3) * b3 + 256 ^ (i + 2) * b2 = X + 256 ^ (i + 1 + 1) * (256 * b3 + b2) := by rw [Nat.pow_succ _ (i + 2)]; grind
    rw [this]
    exact four_zero hX (by omega))
  have e0 : (digs 256 M (X + 256 ^ (i + 3) * b3 + 256 ^ (i + 2) * b2 + 256 ^ (i + 1) * b1)).set i b0 = digs 256 M (X + 256 ^ (i + 3) * b3 + 256 ^ (i + 2) * b2 + 256 ^ (i + 1) * b1 + 256 ^ i * b0) := digs_new (by omega) (by omega) h0 (by
    have : X + 256 ^ (i + 3) * b3 + 256 ^ (i + 2) * b2 + 256 ^ (i + 1) * b1 = X + 256 ^ (i + 1) * (65536 * b3 + 256 * b2 + b1) := by rw [Nat.pow_succ _ (i + 2), Nat.pow_succ _ (i + 1)]; grind
    rw [this]
    exact four_zero hX (by omega))
  rw [rev_set (j := i + 3) (by rw [digs_len]; omega), e3, rev_set (j := i + 2) (by rw [digs_len]; omega), e2, rev_set (j := i + 1) (by rw [digs_len]; omega), e1, rev_set (j := i) (by rw [digs_len]; omega), e0]
  congr 2
  rw [Nat.pow_succ _ (i + 2), Nat.pow_succ _ (i + 1), Nat.pow_succ _ i]
  grind
theorem info_u8 : (Tryd.prog.info? 5).map (fun i => (i.zero, i.size, i.bytes)) = some (some (.int .u8 0), 1, 1) := by kernel_rfl
theorem make_u8 (n : Nat) (hn : n ≤ 140737488355328) (W : World) : (Instr.makeSlice 153 (.int .i64 (n : Int)) (.int .i64 (n : Int))).run Tryd.prog W = .ok (.slice (some ⟨W.heap.size, 0, none⟩) n n) (W.alloc (.cells ((List.replicate n 0).map bvn).toArray 5)) := by
  obtain ⟨i0, hi, hz0, hz1, hz2⟩ := info_parts info_u8
  have h := run_make (P := Tryd.prog) W 153 5 i0 (.int .u8 0) Tryd.underlying153 hi hz0 .i64 .i64 (n : Int) (n : Int) (by omega) (Int.le_refl _) (by rw [hz2]; omega) (by omega)
  rw [Int.toNat_natCast, hz1, Nat.mul_one] at h
  rw [show (Value.int .u8 0).cells = #[bvn 0] from rfl, made_reps] at h
  exact h
theorem beL_zero (M : Nat) : beL M 0 = List.replicate M 0 := by unfold beL; rw [digs_zero, List.reverse_replicate]
def TRel (w : World) (n N : Nat) (i : Value) (wr : World) : Prop := ∃ k : Nat, k ≤ n ∧ i = .int .i64 k ∧ Blk wr w.heap.size 5 ((beL (4 * n) (N % 4294967296 ^ k)).map bvn).toArray ∧ Below w.heap.size w wr
set_option maxRecDepth 100000 in
set_option maxHeartbeats 1000000 in
theorem text_any (w : World) (A : Option Addr) (n c N : Nat) (hn : n ≤ 8796093022208) (hr : Rd w w.heap.size 1 A n ((digs 4294967296 n N).map wvn)) :
    Calls Tryd.prog 99 #[.slice A n c] w fun e w' => e = .returned (.string (natS (N % 4294967296 ^ n))) ∧ Below w.heap.size w w' := by
  have h4 : (4 : Int) * (n : Int) = ((4 * n : Nat) : Int) := by omega
  have hmk := make_u8 (4 * n) (by omega) w
  obtain ⟨M, hM⟩ : ∃ M, M = 4 * n := ⟨_, rfl⟩
  rw [← hM] at h4 hmk
  have HM := Lib.hid hM
  clear hM
  go_enter Tryd.func99, Tryd.ntmps99
  go_wp2
  go_loopw [13] (fun i wr => TRel w n N i wr) (fun i _ => n - (intOf i).toNat)
  case atStart =>
    refine ⟨0, Nat.zero_le _, rfl, ?_, (Below.refl _ _).alloc (Nat.le_refl _) _⟩
    rw [Nat.pow_zero, Nat.mod_one, beL_zero, ← HM.out]
    have := Blk.new w 5 ((List.replicate M 0).map bvn).toArray
    simpa using this
  case round =>
    obtain ⟨k, hk, rfl, hB, hb⟩ := hrel
    by_cases hlt : k < n
    · obtain ⟨ab, ao, rfl, hab, hac⟩ := hr.2 (by omega)
      have hcl := hac k (wvn (N / 4294967296 ^ k % 4294967296)) (by rw [List.getElem?_map, digs_get _ _ _ _ hlt]; rfl)
      obtain ⟨x, hx⟩ : ∃ x, x = N / 4294967296 ^ k % 4294967296 := ⟨_, rfl⟩
      have hxl : x < 4294967296 := by rw [hx]; exact Nat.mod_lt _ (by omega)
      rw [← hx] at hcl
      have hc : wr.cell? ⟨ab, ao + k, none⟩ = some (.int .u32 (x : Int)) := (hb.cell (p := ⟨ab, ao + k, none⟩) hab).trans hcl
      obtain ⟨d, hd⟩ : ∃ d, d = n - 1 - k := ⟨_, rfl⟩
      have hdi : (n : Int) - 1 - (k : Int) = (d : Int) := by omega
      obtain ⟨p, hp⟩ : ∃ p, p = 4 * d := ⟨_, rfl⟩
      have hpi : (4 : Int) * (d : Int) = (p : Int) := by omega
      have hpM : p + 4 + 4 * k = M := by have := HM.out; omega
      have hpl : p + 3 < M := by omega
      have Hset := Lib.hid (four_set (M := M) (p := p) (i := 4 * k) (X := N % 4294967296 ^ k) (b0 := x % 256) (b1 := x / 256 % 256) (b2 := x / 65536 % 256) (b3 := x / 16777216) hpM (by rw [← pow_word]; exact Nat.mod_lt _ (Nat.pow_pos (by omega))) (by omega) (by omega) (by omega) (by omega))
      have Hnx := Lib.hid (show N % 4294967296 ^ k + 256 ^ (4 * k) * (x % 256 + 256 * (x / 256 % 256) + 65536 * (x / 65536 % 256) + 16777216 * (x / 16777216)) = N % 4294967296 ^ (k + 1) by
        rw [mod_succ, ← hx, ← pow_word]
        congr 2
        omega)
      rw [← HM.out] at hB
      have hc0 := hB.cell p (bvn ((N % 4294967296 ^ k) / 256 ^ (M - 1 - p) % 256)) (by simp [beL_get M _ p (by omega)])
      have hc1 := hB.cell (p + 1) (bvn ((N % 4294967296 ^ k) / 256 ^ (M - 1 - (p + 1)) % 256)) (by simp [beL_get M _ (p + 1) (by omega)])
      have hc2 := hB.cell (p + 2) (bvn ((N % 4294967296 ^ k) / 256 ^ (M - 1 - (p + 2)) % 256)) (by simp [beL_get M _ (p + 2) (by omega)])
      have hc3 := hB.cell (p + 3) (bvn ((N % 4294967296 ^ k) / 256 ^ (M - 1 - (p + 3)) % 256)) (by simp [beL_get M _ (p + 3) (by omega)])
      have hf := fun j => hB.free j
      have hB1 := blk_setn (blk_setn (blk_setn (blk_setn hB p (x / 16777216)) (p + 1) (x / 65536 % 256)) (p + 2) (x / 256 % 256)) (p + 3) (x % 256)
      rw [Hset.out, Hnx.out, show bvn (x / 16777216) = .int .u8 ((x : Int) / 16777216) from by unfold bvn; congr 1, show bvn (x / 65536 % 256) = .int .u8 ((x : Int) / 65536 % 256) from by unfold bvn; congr 1, show bvn (x / 256 % 256) = .int .u8 ((x : Int) / 256 % 256) from by unfold bvn; congr 1, show bvn (x % 256) = .int .u8 ((x : Int) % 256) from by unfold bvn; congr 1] at hB1
      have Hst := Lib.hid hB1
      clear hx hd hp hac hcl hpM Hset Hnx hB hB1
      go_wp2
      go_roundw
      case rel => exact ⟨k + 1, by omega, by go_num, by rw [← HM.out]; exact Hst.out, (((hb.setCell (Nat.le_refl _) _).setCell (Nat.le_refl _) _).setCell (Nat.le_refl _) _).setCell (Nat.le_refl _) _⟩
      case measure => simp [intOf]; omega
    · obtain rfl : k = n := by omega
      rw [← HM.out] at hB
      have hcv := conv_blk (cap := M) hB (l := beL M (N % 4294967296 ^ k)) (List.take_of_length_le (by simp [beL_len]))
      rw [beL_len] at hcv
      have Ht := Lib.hid (fun w => trim_any w (strOf (beL M (N % 4294967296 ^ k))) (by simp [strOf, ByteArray.size, beL_len]; omega))
      have Hv := Lib.hid (show sval (strOf (beL M (N % 4294967296 ^ k))) = N % 4294967296 ^ k by
        rw [sval_beL]
        apply Nat.mod_eq_of_lt
        rw [HM.out, ← pow_word]
        exact Nat.mod_lt _ (Nat.pow_pos (by omega)))
      clear hB hr
      go_wp2_with fail
      refine (Ht.out _).mono ?_
      rintro e w' ⟨rfl, rfl⟩
      go_wp2
      go_ret
      exact ⟨ret_str (by rw [Hv.out]), hb⟩
end Go.Proofs.YthmgcbpmfipfiaaDoor
