/- nat.Of, nat.Int, nat.Cmp: from and to integers, comparison. Conditions: those typed. -/
import Derived.Test.YthmgcbpmfipfiaaDoorNatB
import Derived.Test.YthmgcbpmfipfiaaDoorShelf
namespace Go.Proofs.YthmgcbpmfipfiaaDoor
open Go.RowKit Go.Gy
set_option linter.unusedVariables false
theorem sval_trim_le (s : ByteArray) : (natS (sval s)).size ≤ s.size := by
  rw [natS_size]
  have h1 := natL_len_le (sval s) s.size
  have h2 := bval_lt s.data.toList
  have h3 : s.data.toList.length = s.size := by simp
  rw [h3] at h2
  exact h1.mpr h2
set_option maxRecDepth 100000 in
set_option maxHeartbeats 1000000 in
theorem of_any (w : World) (n : Int) (hn' : -9223372036854775808 ≤ n ∧ n ≤ 9223372036854775807) :
    Calls Tryd.prog 73 #[.int .i64 n] w fun e w' => e = .returned (.string (natS n.toNat)) ∧ Below w.heap.size w w' := by
  by_cases h : n < 1
  · have e : n.toNat = 0 := by omega
    rw [e]
    have Hz := Lib.hid (show natS 0 = { data := #[] } by unfold natS; rw [natL_zero])
    go_enter Tryd.func73, Tryd.ntmps73
    go_wp2
    go_ret
    exact ⟨ret_str (by rw [Hz.out]), Below.refl _ _⟩
  · obtain ⟨k, rfl⟩ : ∃ k : Nat, n = (k : Int) := ⟨n.toNat, by omega⟩
    have Hf := Lib.hid (fromShort_any w k (by omega))
    have hw : IntKind.u64.wrap (k : Int) = k := by rw [IntKind.wrap_u64]; omega
    have hk2 := hn'.2
    clear hn'
    go_enter Tryd.func73, Tryd.ntmps73
    go_wp2_with fail
    refine Hf.out.mono ?_
    rintro e w' ⟨rfl, hb⟩
    go_wp2
    go_ret
    exact ⟨rfl, hb⟩
def intF (n : Nat) : Nat × Nat := if n ≤ 9223372036854775807 then (n, 0) else (0, 2)
set_option maxRecDepth 100000 in
set_option maxHeartbeats 1000000 in
theorem int_any (w : World) (s : ByteArray) (hs : s.size ≤ 140737488355328) :
    Calls Tryd.prog 89 #[.string s] w fun e w' => e = .returned (.tuple #[.int .i64 ((intF (sval s)).1 : Nat), .int .i64 ((intF (sval s)).2 : Nat)]) ∧ w = w' := by
  have Ht := Lib.hid (trim_any w s hs)
  obtain ⟨N, hN⟩ : ∃ N, N = sval s := ⟨_, rfl⟩
  have hle := sval_trim_le s
  rw [← hN] at Ht hle ⊢
  obtain ⟨t, ht⟩ : ∃ t, t = natS N := ⟨_, rfl⟩
  have hz : 8 < t.size ↔ 256 ^ 8 ≤ N := by rw [ht, natS_size, natL_len_lt]
  have hv : sval t = N := by rw [ht, sval_natS]
  rw [← ht] at Ht hle
  have hle2 : t.size ≤ 140737488355328 := by omega
  have Hs : t.size ≤ 8 → Hid (Calls Tryd.prog 97 #[.string t] w fun e w' => e = .returned (.int .u64 ((N : Nat) : Int)) ∧ w = w') := fun h => Lib.hid (by rw [← hv]; exact short_any w t h)
  clear hN ht hv hle
  by_cases h8 : 8 < t.size
  · have he : intF N = (0, 2) := by
      unfold intF
      rw [if_neg (by have := hz.mp h8; omega)]
    rw [he]
    clear he hz Hs
    go_enter Tryd.func89, Tryd.ntmps89
    go_wp2_with fail
    refine Ht.out.mono ?_
    rintro e w' ⟨rfl, rfl⟩
    go_wp2
    go_ret2
    exact ⟨rfl, rfl⟩
  · have hS := Hs (by omega)
    have hN8 : N < 18446744073709551616 := by
      rcases Nat.lt_or_ge N (256 ^ 8) with h | h
      · omega
      · exact absurd (hz.mpr h) h8
    clear Hs hz
    by_cases hb : N ≤ 9223372036854775807
    · have he : intF N = (N, 0) := by unfold intF; rw [if_pos hb]
      rw [he]
      have hc : ¬ (9223372036854775807 : Int) < (N : Int) := by omega
      have hw : IntKind.i64.wrap (N : Int) = N := by rw [IntKind.wrap_i64]; omega
      clear he
      go_enter Tryd.func89, Tryd.ntmps89
      go_wp2_with fail
      refine Ht.out.mono ?_
      rintro e w' ⟨rfl, rfl⟩
      go_wp2_with (refine hS.out.mono ?_; rintro e w' ⟨rfl, rfl⟩)
      go_ret2
      exact ⟨rfl, rfl⟩
    · have he : intF N = (0, 2) := by unfold intF; rw [if_neg hb]
      rw [he]
      have hc : (9223372036854775807 : Int) < (N : Int) := by omega
      clear he
      go_enter Tryd.func89, Tryd.ntmps89
      go_wp2_with fail
      refine Ht.out.mono ?_
      rintro e w' ⟨rfl, rfl⟩
      go_wp2_with (refine hS.out.mono ?_; rintro e w' ⟨rfl, rfl⟩)
      go_ret2
      exact ⟨rfl, rfl⟩
def cmpN (a b : Nat) : Int := if a < b then -1 else if b < a then 1 else 0
theorem cmpL : ∀ (l m : List UInt8), l.length = m.length → Lib.compareBytes l m = cmpN (bval l) (bval m)
  | [], [], _ => by simp [Lib.compareBytes, cmpN]
  | a :: l, b :: m, h => by
    have hl : l.length = m.length := by simpa using h
    have ih := cmpL l m hl
    have h1 := bval_lt l
    have h2 := bval_lt m
    rw [Lib.compareBytes, ih, bval_cons, bval_cons, hl]
    rw [hl] at h1
    generalize (256 : Nat) ^ m.length = p at *
    have hab : a < b ↔ a.toNat < b.toNat := UInt8.lt_iff_toNat_lt
    have hba : b < a ↔ b.toNat < a.toNat := UInt8.lt_iff_toNat_lt
    unfold cmpN
    rcases Nat.lt_trichotomy a.toNat b.toNat with h3 | h3 | h3
    · have h4 : (a.toNat + 1) * p ≤ b.toNat * p := Nat.mul_le_mul_right p h3
      rw [Nat.add_mul] at h4
      rw [if_pos (hab.mpr h3), if_pos (by omega)]
    · rw [if_neg (by rw [hab]; omega), if_neg (by rw [hba]; omega), h3]
      simp only [Nat.add_lt_add_iff_left]
    · have h4 : (b.toNat + 1) * p ≤ a.toNat * p := Nat.mul_le_mul_right p h3
      rw [Nat.add_mul] at h4
      rw [if_neg (by rw [hab]; omega), if_pos (hba.mpr h3), if_neg (by omega), if_pos (by omega)]
set_option maxRecDepth 100000 in
set_option maxHeartbeats 1000000 in
theorem cmp_any (w : World) (s t : ByteArray) (hs : s.size ≤ 140737488355328) (ht : t.size ≤ 140737488355328) :
    Calls Tryd.prog 75 #[.string s, .string t] w fun e w' => e = .returned (.int .i64 (cmpN (sval s) (sval t))) ∧ w = w' := by
  have H1 := Lib.hid (trim_any w s hs)
  have H2 := Lib.hid (trim_any w t ht)
  obtain ⟨M, hM⟩ : ∃ M, M = sval s := ⟨_, rfl⟩
  obtain ⟨N, hN⟩ : ∃ N, N = sval t := ⟨_, rfl⟩
  have hl1 := sval_trim_le s
  have hl2 := sval_trim_le t
  rw [← hM] at H1 hl1 ⊢
  rw [← hN] at H2 hl2 ⊢
  have HC := Lib.hid (Tryd.strings_Compare (natS M) (natS N) w)
  have hcm := cmpL (natL M) (natL N)
  rw [natS_list, natS_list] at HC
  rw [bval_natL, bval_natL] at hcm
  have hlen : (natS M).size < (natS N).size → M < N := fun h => by
    rw [natS_size, natS_size] at h
    rcases Nat.lt_or_ge M N with h1 | h1
    · exact h1
    · have := natL_len_mono h1; omega
  have hlen2 : (natS N).size < (natS M).size → N < M := fun h => by
    rw [natS_size, natS_size] at h
    rcases Nat.lt_or_ge N M with h1 | h1
    · exact h1
    · have := natL_len_mono h1; omega
  have hsz : (natL M).length = (natL N).length ↔ (natS M).size = (natS N).size := by rw [natS_size, natS_size]
  obtain ⟨a, ha⟩ : ∃ a, a = natS M := ⟨_, rfl⟩
  obtain ⟨b, hb⟩ : ∃ b, b = natS N := ⟨_, rfl⟩
  rw [← ha] at H1 HC hl1 hlen hlen2 hsz
  rw [← hb] at H2 HC hl2 hlen hlen2 hsz
  have ha2 : a.size ≤ 140737488355328 := by omega
  have hb2 : b.size ≤ 140737488355328 := by omega
  clear hM hN ha hb hl1 hl2
  rcases Nat.lt_trichotomy a.size b.size with h | h | h
  · have he : cmpN M N = -1 := by unfold cmpN; rw [if_pos (hlen h)]
    rw [he]
    clear he hlen hlen2 hcm hsz HC
    go_enter Tryd.func75, Tryd.ntmps75
    go_wp2_with fail
    refine H1.out.mono ?_
    rintro e w' ⟨rfl, rfl⟩
    go_wp2_with fail
    refine H2.out.mono ?_
    rintro e w' ⟨rfl, rfl⟩
    go_wp2
    go_ret
    exact ⟨rfl, rfl⟩
  · rw [← hcm (hsz.mpr h)]
    have h1 : ¬ a.size < b.size := by omega
    have h2 : ¬ b.size < a.size := by omega
    clear hlen hlen2 hcm hsz h
    go_enter Tryd.func75, Tryd.ntmps75
    go_wp2_with fail
    refine H1.out.mono ?_
    rintro e w' ⟨rfl, rfl⟩
    go_wp2_with fail
    refine H2.out.mono ?_
    rintro e w' ⟨rfl, rfl⟩
    go_wp2_with fail
    refine HC.out.mono ?_
    rintro e w' ⟨rfl, rfl⟩
    go_wp2
    go_ret
    exact ⟨rfl, rfl⟩
  · have he : cmpN M N = 1 := by
      have := hlen2 h
      unfold cmpN; rw [if_neg (by omega), if_pos this]
    rw [he]
    have h1 : ¬ a.size < b.size := by omega
    clear he hlen hlen2 hcm hsz HC
    go_enter Tryd.func75, Tryd.ntmps75
    go_wp2_with fail
    refine H1.out.mono ?_
    rintro e w' ⟨rfl, rfl⟩
    go_wp2_with fail
    refine H2.out.mono ?_
    rintro e w' ⟨rfl, rfl⟩
    go_wp2
    go_ret
    exact ⟨rfl, rfl⟩
end Go.Proofs.YthmgcbpmfipfiaaDoor
