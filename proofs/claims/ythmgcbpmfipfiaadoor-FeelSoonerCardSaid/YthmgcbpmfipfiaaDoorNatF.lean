/- nat.Mul: the product of two numbers. Conditions: those typed. -/
import Derived.Test.YthmgcbpmfipfiaaDoorNatE
namespace Go.Proofs.YthmgcbpmfipfiaaDoor
open Go.RowKit Go.Gy
set_option linter.unusedVariables false
def MulO (w3 : World) (X Y lx m : Nat) (i : Value) (wr : World) : Prop := ∃ k : Nat, k ≤ lx ∧ i = .int .i64 k ∧ Blk wr w3.heap.size 137 ((digs 4294967296 m (X % 4294967296 ^ k * Y)).map wvn).toArray ∧ Below w3.heap.size w3 wr
def MulI (w3 : World) (X Y i ly m : Nat) (c k : Value) (wr : World) : Prop := ∃ j N z : Nat, j ≤ ly ∧ k = .int .i64 j ∧ c = .int .u64 z ∧ z < 4294967296 ∧ Hid (N + z * 4294967296 ^ (i + j) = X % 4294967296 ^ i * Y + 4294967296 ^ i * (X / 4294967296 ^ i % 4294967296) * (Y % 4294967296 ^ j)) ∧ Hid (N < 4294967296 ^ (i + ly)) ∧ Blk wr w3.heap.size 137 ((digs 4294967296 m N).map wvn).toArray ∧ Below w3.heap.size w3 wr
theorem mul_le_bound {x y : Nat} (hx : x < 4294967296) (hy : y < 4294967296) : x * y ≤ 18446744065119617025 := by
  have := Nat.mul_le_mul (show x ≤ 4294967295 by omega) (show y ≤ 4294967295 by omega)
  omega
set_option maxRecDepth 100000 in
set_option maxHeartbeats 4000000 in
theorem mul_any (w : World) (s t : ByteArray) (hs : s.size ≤ 8796093022208) (ht : t.size ≤ 8796093022208) :
    Calls Tryd.prog 71 #[.string s, .string t] w fun e w' => e = .returned (.string (natS (sval s * sval t))) ∧ Below w.heap.size w w' := by
  have H1 := Lib.hid (trim_any w s (by omega))
  have H2 := Lib.hid (trim_any w t (by omega))
  have hw1 := wlen_size s hs
  have hw2 := wlen_size t ht
  obtain ⟨A, hA⟩ : ∃ A, A = sval s := ⟨_, rfl⟩
  obtain ⟨B, hB⟩ : ∃ B, B = sval t := ⟨_, rfl⟩
  have hl1 := sval_trim_le s
  have hl2 := sval_trim_le t
  rw [← hA] at H1 hl1 hw1 ⊢
  rw [← hB] at H2 hl2 hw2 ⊢
  have hz1 : A < 256 ^ (natS A).size := (natL_len_le A _).mp (by rw [natS_size]; exact Nat.le_refl _)
  have hz2 : B < 256 ^ (natS B).size := (natL_len_le B _).mp (by rw [natS_size]; exact Nat.le_refl _)
  have hv1 := sval_natS A
  have hv2 := sval_natS B
  obtain ⟨a, ha⟩ : ∃ a, a = natS A := ⟨_, rfl⟩
  obtain ⟨b, hb⟩ : ∃ b, b = natS B := ⟨_, rfl⟩
  rw [← ha] at H1 hl1 hz1 hv1
  rw [← hb] at H2 hl2 hz2 hv2
  clear hA hB ha hb
  by_cases h8 : a.size + b.size ≤ 8
  · have S1 := Lib.hid (short_any w a (by omega))
    have S2 := Lib.hid (short_any w b (by omega))
    rw [hv1] at S1
    rw [hv2] at S2
    have hAB : A * B < 18446744073709551616 := by
      have h1 : A * B < 256 ^ a.size * 256 ^ b.size := Nat.lt_of_le_of_lt (Nat.mul_le_mul_left A (Nat.le_of_lt hz2)) (Nat.mul_lt_mul_of_pos_right hz1 (Nat.pow_pos (by omega)))
      rw [← Nat.pow_add] at h1
      exact Nat.lt_of_lt_of_le h1 (Nat.le_trans (Nat.pow_le_pow_right (by omega) h8) (by decide))
    have F := Lib.hid (fromShort_any w (A * B) hAB)
    obtain ⟨p, hp⟩ : ∃ p, p = A * B := ⟨_, rfl⟩
    rw [← hp] at F hAB ⊢
    have hpi : (A : Int) * (B : Int) = (p : Int) := by rw [hp]; simp
    have hle : (a.size : Int) + (b.size : Int) ≤ 8 := by omega
    have hpw : IntKind.u64.wrap (p : Int) = p := by rw [IntKind.wrap_u64]; omega
    have ha2 : a.size ≤ 8 := by omega
    have hb2 : b.size ≤ 8 := by omega
    clear hz1 hz2 hv1 hv2 hl1 hl2 hp
    go_enter Tryd.func71, Tryd.ntmps71
    go_wp2_with fail
    refine H1.out.mono ?_
    rintro e w' ⟨rfl, rfl⟩
    go_wp2_with fail
    refine H2.out.mono ?_
    rintro e w' ⟨rfl, rfl⟩
    go_wp2_with fail
    refine S1.out.mono ?_
    rintro e w' ⟨rfl, rfl⟩
    go_wp2_with fail
    refine S2.out.mono ?_
    rintro e w' ⟨rfl, rfl⟩
    go_wp2_with fail
    refine F.out.mono ?_
    rintro e w' ⟨rfl, hb⟩
    go_wp2
    go_ret
    exact ⟨rfl, hb⟩
  · have W1 := Lib.hid (words_any w a (by omega))
    have W2 := Lib.hid (fun w' => words_any w' b (by omega))
    rw [hv1] at W1
    rw [hv2] at W2
    have hle : ¬ (a.size : Int) + (b.size : Int) ≤ 8 := by omega
    obtain ⟨m, hm⟩ : ∃ m, m = wlen A := ⟨_, rfl⟩
    obtain ⟨n, hn⟩ : ∃ n, n = wlen B := ⟨_, rfl⟩
    have W1' := Lib.hid (show Calls Tryd.prog 98 #[.string a] w fun e w' => ∃ G, e = .returned (.slice (some ⟨G, 0, none⟩) m m) ∧ w.heap.size ≤ G ∧ Blk w' G 137 ((digs 4294967296 m A).map wvn).toArray ∧ Below w.heap.size w w' by rw [hm]; exact W1.out)
    have W2' := Lib.hid (show ∀ w, Calls Tryd.prog 98 #[.string b] w fun e w' => ∃ G, e = .returned (.slice (some ⟨G, 0, none⟩) n n) ∧ w.heap.size ≤ G ∧ Blk w' G 137 ((digs 4294967296 n B).map wvn).toArray ∧ Below w.heap.size w w' by rw [hn]; exact W2.out)
    have HAl := Lib.hid (show A < 4294967296 ^ m by rw [hm]; exact wlen_lt A)
    have HBl := Lib.hid (show B < 4294967296 ^ n by rw [hn]; exact wlen_lt B)
    rw [← hm] at hw1
    rw [← hn] at hw2
    have ha2 : a.size ≤ 8796093022208 := by omega
    have hb2 : b.size ≤ 8796093022208 := by omega
    clear hz1 hz2 hv1 hv2 hl1 hl2 h8 hm hn W1 W2
    go_enter Tryd.func71, Tryd.ntmps71
    go_wp2_with fail
    refine H1.out.mono ?_
    rintro e w' ⟨rfl, rfl⟩
    go_wp2_with fail
    refine H2.out.mono ?_
    rintro e w' ⟨rfl, rfl⟩
    go_wp2_with fail
    refine W1'.out.mono ?_
    rintro e w1 ⟨gx, rfl, hgx, hX, hb1⟩
    go_wp2_with fail
    refine (W2'.out w1).mono ?_
    rintro e w2 ⟨gy, rfl, hgy, hY, hb2⟩
    have hgl := hX.lt
    have hX2 := hX.below hb2 hgl
    have Hb := Lib.hid (hb1.trans (hb2.mono hb1.size))
    have Hx := Lib.hid (show ∀ k, k < m → ∀ wr, Below w2.heap.size w2 wr → wr.cell? ⟨gx, k, none⟩ = some (.int .u32 ((A / 4294967296 ^ k % 4294967296 : Nat) : Int)) from fun k hk wr hb => (hb.cell (p := ⟨gx, k, none⟩) hX2.lt).trans (blk_dig hX2 hk))
    have Hy := Lib.hid (show ∀ k, k < n → ∀ wr, Below w2.heap.size w2 wr → wr.cell? ⟨gy, k, none⟩ = some (.int .u32 ((B / 4294967296 ^ k % 4294967296 : Nat) : Int)) from fun k hk wr hb => (hb.cell (p := ⟨gy, k, none⟩) hY.lt).trans (blk_dig hY hk))
    have hmk := make_u32 (m + n) (by omega) w2
    have hc1 : ((m + n : Nat) : Int) = (m : Int) + (n : Int) := by omega
    rw [hc1] at hmk
    clear hX hX2 hY hb1 hb2 hgx hgy hgl hc1 W1' W2' H1 H2
    go_wp2
    go_loopw [41] (fun i wr => MulO w2 A B m (m + n) i wr) (fun i _ => m - (intOf i).toNat)
    case atStart =>
      refine ⟨0, Nat.zero_le _, rfl, ?_, (Below.refl _ _).alloc (Nat.le_refl _) _⟩
      rw [Nat.pow_zero, Nat.mod_one, Nat.zero_mul, digs_zero]
      have := Blk.new w2 137 ((List.replicate (m + n) 0).map wvn).toArray
      simpa using this
    case round =>
      obtain ⟨wo, rfl⟩ : ∃ wo : World, wo = wr := ⟨_, rfl⟩
      obtain ⟨i, hi, rfl, hB, hb3⟩ := hrel
      by_cases hlt : i < m
      · have hcx := Hx.out i hlt wo hb3
        obtain ⟨x, hx⟩ : ∃ x, x = A / 4294967296 ^ i % 4294967296 := ⟨_, rfl⟩
        have hxl : x < 4294967296 := by rw [hx]; exact Nat.mod_lt _ (by omega)
        rw [← hx] at hcx
        have Hst := Lib.hid (show MulI w2 A B i n (m + n) (.int .u64 0) (.int .i64 0) wo from ⟨0, _, 0, Nat.zero_le _, rfl, rfl, by omega, Lib.hid (mul_start 4294967296 A B i), Lib.hid (mul_row_lt (by omega) HBl.out), hB, hb3⟩)
        have HX := Lib.hid hx
        clear hx hB hb3
        go_wp2
        go_loopw [10, 48] (fun c k wr => MulI w2 A B i n (m + n) c k wr) (fun _ k _ => n - (intOf k).toNat)
        case atStart => exact Hst.out
        case round =>
          obtain ⟨j, N, z, hj, rfl, rfl, hz, HN, HNl, hB, hb3⟩ := hrel
          by_cases hjn : j < n
          · have hcy := Hy.out j hjn wr hb3
            obtain ⟨y, hy⟩ : ∃ y, y = B / 4294967296 ^ j % 4294967296 := ⟨_, rfl⟩
            obtain ⟨o, ho⟩ : ∃ o, o = N / 4294967296 ^ (i + j) % 4294967296 := ⟨_, rfl⟩
            have hyl : y < 4294967296 := by rw [hy]; exact Nat.mod_lt _ (by omega)
            have hol : o < 4294967296 := by rw [ho]; exact Nat.mod_lt _ (by omega)
            rw [← hy] at hcy
            have hco := blk_dig hB (k := i + j) (by omega)
            rw [← ho] at hco
            have hfo := hB.free (i + j)
            have hpb := mul_le_bound hxl hyl
            have hstep := mul_step (B := 4294967296) (by omega) HN.out
            rw [← HX.out, ← hy, ← ho] at hstep
            obtain ⟨p, hp⟩ : ∃ p, p = x * y := ⟨_, rfl⟩
            rw [← hp] at hpb hstep
            have hpi : (x : Int) * (y : Int) = (p : Int) := by rw [hp]; simp
            have hset := updN_digs (B := 4294967296) (m := m + n) (N := N) (j := i + j) (v := (z + p + o) % 4294967296) (by omega) (by omega) (Nat.mod_lt _ (by omega))
            have hst := blk_setn hB (i + j) ((z + p + o) % 4294967296)
            rw [hset] at hst
            have Hst := Lib.hid hst
            have Hstep := Lib.hid (hstep.trans (by rw [HX.out]))
            have HNl2 := Lib.hid (updN_lt (B := 4294967296) (v := (z + p + o) % 4294967296) (by omega) (Nat.mod_lt _ (by omega)) (show i + j < i + n by omega) HNl.out)
            have hij : ((i + j : Nat) : Int) = (i : Int) + (j : Int) := by omega
            have E1 := Lib.hid (show wvn ((z + p + o) % 4294967296) = .int .u32 (((z : Int) + ((p : Int) + (o : Int))) % 4294967296) by unfold wvn; congr 1; omega)
            have E2 := Lib.hid (show Value.int .u64 (((z : Int) + ((p : Int) + (o : Int))) / 4294967296) = .int .u64 (((z + p + o) / 4294967296 : Nat) : Int) by congr 1; omega)
            have E3 := Lib.hid (show (z + p + o) / 4294967296 < 4294967296 by omega)
            clear hy ho hp hset hst hstep hB HN HNl hij
            go_wp2
            go_roundw
            case rel => exact ⟨j + 1, _, _, by omega, by go_num, E2.out, E3.out, Hstep, HNl2, by rw [← E1.out]; exact Hst.out, hb3.setCell (Nat.le_refl _) _⟩
            case measure => simp [intOf]; omega
          · obtain rfl : j = n := by omega
            have hco := blk_dig hB (k := i + j) (by omega)
            have hfo := hB.free (i + j)
            have hst := blk_setn hB (i + j) z
            rw [digs_put (by omega) (by omega) HNl.out hz, mul_row (by omega) HBl.out HN.out, show wvn z = Value.int .u32 (z : Int) from rfl] at hst
            have Hst := Lib.hid hst
            clear hB hst
            go_wp2
            go_roundw
            case rel => exact ⟨i + 1, by omega, by go_num, Hst.out, hb3.setCell (Nat.le_refl _) _⟩
            case measure => simp [intOf]; omega
      · obtain rfl : i = m := by omega
        have HT := Lib.hid (text_any wo (some ⟨w2.heap.size, 0, none⟩) (i + n) (i + n) (A % 4294967296 ^ i * B) (by omega) (Rd.blk hB (by simp [digs_len])))
        have Hv := Lib.hid (show A % 4294967296 ^ i * B % 4294967296 ^ (i + n) = A * B by
          rw [Nat.mod_eq_of_lt (mul_row_lt (by omega) HBl.out), Nat.mod_eq_of_lt HAl.out])
        clear hB
        go_wp2_with fail
        refine HT.out.mono ?_
        rintro e w4 ⟨rfl, hb4⟩
        go_wp2
        go_ret
        exact ⟨ret_str (by rw [Hv.out]), Hb.out.trans ((hb3.trans (hb4.mono hb3.size)).mono Hb.out.size)⟩
end Go.Proofs.YthmgcbpmfipfiaaDoor
