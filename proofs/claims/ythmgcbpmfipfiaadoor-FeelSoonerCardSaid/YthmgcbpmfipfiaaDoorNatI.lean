/- nat.Div: quotient and remainder. Conditions: those typed. -/
import Derived.Test.YthmgcbpmfipfiaaDoorNatH
import Derived.RegionTactic
namespace Go.Proofs.YthmgcbpmfipfiaaDoor
open Go.RowKit Go.Gy
set_option linter.unusedVariables false
def divF (a b : Nat) : Nat × Nat × Nat := if b = 0 then (0, 0, 12) else (a / b, a % b, 0)
def DivPost (w : World) (a b : Nat) (e : Ending) (w' : World) : Prop := e = .returned (.tuple #[.string (natS (divF a b).1), .string (natS (divF a b).2.1), .int .i64 ((divF a b).2.2 : Nat)]) ∧ Below w.heap.size w w'
theorem DivPost.of {w w' : World} {a b : Nat} {s t : ByteArray} {v : Value} (hb : b ≠ 0) (h1 : s = natS (a / b)) (h2 : t = natS (a % b)) (h3 : v = .int .i64 0) (h : Below w.heap.size w w') : DivPost w a b (.returned (.tuple #[.string s, .string t, v])) w' := by
  refine ⟨?_, h⟩
  unfold divF
  rw [if_neg hb, h1, h2, h3]
  rfl
def OneRel (w : World) (gx gy A D m : Nat) (r i : Value) (wr : World) : Prop := ∃ K : Nat, K ≤ m ∧ ((K = 0 ∧ i = .int .i64 (-1)) ∨ ∃ k : Nat, K = k + 1 ∧ i = .int .i64 k) ∧ r = .int .u64 ((A / 4294967296 ^ K % D : Nat) : Int) ∧ Blk wr gx 137 ((digs 4294967296 m (divN 4294967296 A D K)).map wvn).toArray ∧ Blk wr gy 137 #[wvn D] ∧ Below w.heap.size w wr
theorem idx_or (K : Nat) : (K = 0 ∧ Value.int .i64 ((K : Int) - 1) = .int .i64 (-1)) ∨ ∃ k : Nat, K = k + 1 ∧ Value.int .i64 ((K : Int) - 1) = .int .i64 k := by
  rcases Nat.eq_zero_or_pos K with h | h
  · subst h; exact .inl ⟨rfl, rfl⟩
  · exact .inr ⟨K - 1, by omega, by congr 1; omega⟩
set_option maxRecDepth 100000 in
set_option maxHeartbeats 4000000 in
theorem div_any (w : World) (s t : ByteArray) (hs : s.size ≤ 8796093022208) (ht : t.size ≤ 8796093022208) :
    Calls Tryd.prog 94 #[.string s, .string t] w (DivPost w (sval s) (sval t)) := by
  have H1 := Lib.hid (trim_any w s (by omega))
  have H2 := Lib.hid (trim_any w t (by omega))
  have hw1 := wlen_size s hs
  have hw2 := wlen_size t ht
  obtain ⟨A, hA⟩ : ∃ A, A = sval s := ⟨_, rfl⟩
  obtain ⟨D, hD⟩ : ∃ D, D = sval t := ⟨_, rfl⟩
  have hl1 := sval_trim_le s
  have hl2 := sval_trim_le t
  rw [← hA] at H1 hl1 hw1 ⊢
  rw [← hD] at H2 hl2 hw2 ⊢
  have hz1 := natL_len_le A 8
  have hz2 := natL_len_le D 8
  rw [← natS_size] at hz1 hz2
  have hv1 := sval_natS A
  have hv2 := sval_natS D
  have hem : (natS D).toList = [] ↔ D = 0 := by rw [ByteArray.toList_eq, natS_list]; exact natL_nil
  obtain ⟨a, ha⟩ : ∃ a, a = natS A := ⟨_, rfl⟩
  obtain ⟨b, hb⟩ : ∃ b, b = natS D := ⟨_, rfl⟩
  rw [← ha] at H1 hl1 hz1 hv1
  rw [← hb] at H2 hl2 hz2 hv2 hem
  have Ha := Lib.hid ha
  clear hA hD ha hb
  have hzz : natS 0 = { data := #[] } := by unfold natS; rw [natL_zero]
  by_cases hD0 : D = 0
  · have he := hem.mpr hD0
    have he2 : (!b.toList.isEmpty) = false := by rw [he]; rfl
    have he3 : b.toList.isEmpty = true := by rw [he]; rfl
    have HP := Lib.hid (show DivPost w A D (.returned (.tuple #[.string { data := #[] }, .string { data := #[] }, .int .i64 12])) w from ⟨by unfold divF; rw [if_pos hD0]; simp only; rw [hzz]; rfl, Below.refl _ _⟩)
    clear hz1 hz2 hv1 hv2 hem hzz hD0
    go_enter Tryd.func94, Tryd.ntmps94
    go_wp2_with fail
    refine H1.out.mono ?_
    rintro e w' ⟨rfl, rfl⟩
    go_wp2_with fail
    refine H2.out.mono ?_
    rintro e w' ⟨rfl, rfl⟩
    go_wp2
    go_ret3
    exact HP.out
  · have he : ¬ b.toList = [] := fun h => hD0 (hem.mp h)
    have he3 : b.toList.isEmpty = false := by simpa using he
    have he2 : (!b.toList.isEmpty) = true := by rw [he3]; rfl
    have HD0 := Lib.hid hD0
    have Hzz := Lib.hid hzz
    clear hem hD0 hzz
    by_cases h8 : a.size ≤ 8 ∧ b.size ≤ 8
    · obtain ⟨h1, h2⟩ := h8
      have hA8 : A < 18446744073709551616 := hz1.mp h1
      have hD8 : D < 18446744073709551616 := hz2.mp h2
      have S1 := Lib.hid (fun w => short_any w a h1)
      have S2 := Lib.hid (fun w => short_any w b h2)
      rw [hv1] at S1
      rw [hv2] at S2
      have hDp := Nat.pos_of_ne_zero HD0.out
      have hql : A / D < 18446744073709551616 := Nat.lt_of_le_of_lt (Nat.div_le_self _ _) hA8
      have hrl : A % D < 18446744073709551616 := Nat.lt_trans (Nat.mod_lt _ hDp) hD8
      obtain ⟨q, hq⟩ : ∃ q, q = A / D := ⟨_, rfl⟩
      obtain ⟨r, hr⟩ : ∃ r, r = A % D := ⟨_, rfl⟩
      have e1 : (A : Int).tdiv (D : Int) = (q : Int) := by rw [hq]; rfl
      have e2 : (A : Int).tmod (D : Int) = (r : Int) := by rw [hr]; rfl
      have e3 : (A : Int) / (D : Int) = (q : Int) := by rw [hq]; rfl
      have e4 : (A : Int) % (D : Int) = (r : Int) := by rw [hr]; rfl
      have e5 : ((D : Int) == 0) = false := by simp; omega
      rw [← hq] at hql
      rw [← hr] at hrl
      have F1 := Lib.hid (fun w => fromShort_any w q hql)
      have F2 := Lib.hid (fun w => fromShort_any w r hrl)
      have Hq := Lib.hid hq
      have Hr := Lib.hid hr
      clear hz1 hz2 hv1 hv2 hq hr
      go_enter Tryd.func94, Tryd.ntmps94
      go_wp2_with fail
      refine H1.out.mono ?_
      rintro e w' ⟨rfl, rfl⟩
      go_wp2_with fail
      refine H2.out.mono ?_
      rintro e w' ⟨rfl, rfl⟩
      go_wp2_with fail
      refine (S1.out _).mono ?_
      rintro e w' ⟨rfl, rfl⟩
      go_wp2_with fail
      refine (S2.out _).mono ?_
      rintro e w' ⟨rfl, rfl⟩
      go_wp2_with fail
      refine (F1.out _).mono ?_
      rintro e w1 ⟨rfl, hb1⟩
      go_wp2_with fail
      refine (S1.out _).mono ?_
      rintro e w' ⟨rfl, rfl⟩
      go_wp2_with fail
      refine (S2.out _).mono ?_
      rintro e w' ⟨rfl, rfl⟩
      go_wp2_with fail
      refine (F2.out _).mono ?_
      rintro e w2 ⟨rfl, hb2⟩
      go_wp2
      go_ret3
      exact DivPost.of HD0.out (by rw [Hq.out]) (by rw [Hr.out]) rfl (hb1.trans (hb2.mono hb1.size))
    · have hor : (a.size ≤ 8 ∧ ¬ b.size ≤ 8) ∨ ¬ a.size ≤ 8 := by omega
      have HC := Lib.hid (cmp_any w a b (by omega) (by omega))
      rw [hv1, hv2] at HC
      by_cases hlt : A < D
      · have e1 : cmpN A D = -1 := by unfold cmpN; rw [if_pos hlt]
        rw [e1] at HC
        have Hlt := Lib.hid hlt
        clear e1 hlt hz1 hz2 hv1 hv2 h8
        go_enter Tryd.func94, Tryd.ntmps94
        go_wp2_with fail
        refine H1.out.mono ?_
        rintro e w' ⟨rfl, rfl⟩
        go_wp2_with fail
        refine H2.out.mono ?_
        rintro e w' ⟨rfl, rfl⟩
        rcases hor with ⟨ha8, hb8⟩ | ha8
        all_goals
          go_wp2_with fail
          refine HC.out.mono ?_
          rintro e w' ⟨rfl, rfl⟩
          go_wp2
          go_ret3
          exact DivPost.of HD0.out (by rw [Nat.div_eq_of_lt Hlt.out, Hzz.out]) (by rw [Nat.mod_eq_of_lt Hlt.out, Ha.out]) rfl (Below.refl _ _)
      · have e1 : 0 ≤ cmpN A D := by unfold cmpN; rw [if_neg hlt]; split <;> omega
        obtain ⟨cc, hcc⟩ : ∃ c, c = cmpN A D := ⟨_, rfl⟩
        rw [← hcc] at e1 HC
        have hcn : ¬ cc < 0 := by omega
        have W1 := Lib.hid (words_any w a (by omega))
        have W2 := Lib.hid (fun w' => words_any w' b (by omega))
        rw [hv1] at W1
        rw [hv2] at W2
        have hle : wlen D ≤ wlen A := by
          rw [wlen_le]
          exact Nat.lt_of_le_of_lt (by omega) (wlen_lt A)
        have hDpos := Nat.pos_of_ne_zero HD0.out
        have hn1 : 1 ≤ wlen D := by
          rcases Nat.eq_zero_or_pos (wlen D) with h | h
          · have := wlen_lt D
            rw [h] at this
            omega
          · exact h
        have HDt := Lib.hid (show 4294967296 ^ (wlen D - 1) ≤ D from by
          rcases Nat.lt_or_ge D (4294967296 ^ (wlen D - 1)) with h | h
          · have := (wlen_le D (wlen D - 1)).mpr h
            omega
          · exact h)
        have HAl := Lib.hid (wlen_lt A)
        have HDl := Lib.hid (wlen_lt D)
        obtain ⟨m, hm⟩ : ∃ m, m = wlen A := ⟨_, rfl⟩
        obtain ⟨n, hn⟩ : ∃ n, n = wlen D := ⟨_, rfl⟩
        have W1' := Lib.hid (show Calls Tryd.prog 98 #[.string a] w fun e w' => ∃ G, e = .returned (.slice (some ⟨G, 0, none⟩) m m) ∧ w.heap.size ≤ G ∧ Blk w' G 137 ((digs 4294967296 m A).map wvn).toArray ∧ Below w.heap.size w w' by rw [hm]; exact W1.out)
        have W2' := Lib.hid (show ∀ w, Calls Tryd.prog 98 #[.string b] w fun e w' => ∃ G, e = .returned (.slice (some ⟨G, 0, none⟩) n n) ∧ w.heap.size ≤ G ∧ Blk w' G 137 ((digs 4294967296 n D).map wvn).toArray ∧ Below w.heap.size w w' by rw [hn]; exact W2.out)
        rw [← hm] at hle hw1 HAl
        rw [← hn] at hle hw2 HDl HDt hn1
        clear hcc hm hn W1 W2 hz1 hz2 hv1 hv2 h8 hlt
        go_enter Tryd.func94, Tryd.ntmps94
        go_wp2_with fail
        refine H1.out.mono ?_
        rintro e w' ⟨rfl, rfl⟩
        go_wp2_with fail
        refine H2.out.mono ?_
        rintro e w' ⟨rfl, rfl⟩
        rcases hor with ⟨ha8, hb8⟩ | ha8
        all_goals
          go_wp2_with fail
          refine HC.out.mono ?_
          rintro e w' ⟨rfl, rfl⟩
          go_wp2_with fail
          refine W1'.out.mono ?_
          rintro e w1 ⟨gx, rfl, hgx, hX, hb1⟩
          go_wp2_with fail
          refine (W2'.out w1).mono ?_
          rintro e w2 ⟨gy, rfl, hgy, hY, hb2⟩
          have hgl := hX.lt
          have hX2 := hX.below hb2 hgl
          have hYl := hY.lt
          have Hb := Lib.hid (hb1.trans (hb2.mono hb1.size))
          have hgyw : w.heap.size ≤ gy := Nat.le_trans hb1.size hgy
          have hgne : gx ≠ gy := by omega
          clear hb1 hb2 hX
          by_cases hn1' : n = 1
          · subst hn1'
            have hDl : D < 4294967296 := by have := HDl.out; omega
            have hst : OneRel w gx gy A D m (.int .u64 0) (.int .i64 ((m : Int) - 1)) w2 := ⟨m, Nat.le_refl _, idx_or m, by rw [Nat.div_eq_of_lt HAl.out, Nat.zero_mod]; rfl, by rw [divN_top HAl.out]; exact hX2, by
              have e : digs 4294967296 1 D = [D] := by simp [digs, Nat.mod_eq_of_lt hDl]
              rw [e] at hY
              exact hY, Hb.out⟩
            have Hst := Lib.hid hst
            clear hst hX2 hY
            go_wp2
            go_loopw [9, 10] (fun r i wr => OneRel w gx gy A D m r i wr) (fun _ i _ => (intOf i + 1).toNat)
            case atStart => exact Hst.out
            case round =>
              obtain ⟨K, hK, hi, rfl, hB, hBy, hbw⟩ := hrel
              rcases hi with ⟨rfl, rfl⟩ | ⟨k, rfl, rfl⟩
              · have hrl : A % D < 18446744073709551616 := Nat.lt_trans (Nat.mod_lt _ hDpos) (by omega)
                have hAD : A / D < 4294967296 ^ m := Nat.lt_of_le_of_lt (Nat.div_le_self _ _) HAl.out
                rw [divN_zero] at hB
                have HT := Lib.hid (text_any wr (some ⟨gx, 0, none⟩) m m (A / D) (by omega) (Rd.blk hB (by simp [digs_len])))
                have HF := Lib.hid (fun w => fromShort_any w (A % D) hrl)
                rw [Nat.mod_eq_of_lt hAD] at HT
                simp only [Nat.pow_zero, Nat.div_one]
                obtain ⟨r, hr⟩ : ∃ r, r = A % D := ⟨_, rfl⟩
                obtain ⟨q, hq⟩ : ∃ q, q = A / D := ⟨_, rfl⟩
                rw [← hr] at HF ⊢
                rw [← hq] at HT
                have Hr := Lib.hid hr
                have Hq := Lib.hid hq
                have Hbw := Lib.hid hbw
                clear hB hBy hbw hr hq hrl hAD
                go_wp2_with fail
                refine HT.out.mono ?_
                rintro e w3 ⟨rfl, hb3⟩
                go_wp2_with fail
                refine (HF.out _).mono ?_
                rintro e w4 ⟨rfl, hb4⟩
                go_wp2
                go_ret3
                exact DivPost.of HD0.out (by rw [Hq.out]) (by rw [Hr.out]) rfl (Hbw.out.trans ((hb3.trans (hb4.mono hb3.size)).mono Hbw.out.size))
              · obtain ⟨r, hr⟩ : ∃ r, r = A / 4294967296 ^ (k + 1) % D := ⟨_, rfl⟩
                have hrl : r < D := by rw [hr]; exact Nat.mod_lt _ hDpos
                obtain ⟨x, hx⟩ : ∃ x, x = A / 4294967296 ^ k % 4294967296 := ⟨_, rfl⟩
                have hxl : x < 4294967296 := by rw [hx]; exact Nat.mod_lt _ (by omega)
                have hcx := blk_dig hB (k := k) (by omega)
                rw [divN_dig (by omega), ← hx] at hcx
                have hcy := hBy.cell 0 (.int .u32 (D : Int)) rfl
                have hfx := hB.free k
                have hor := u64_pair r x (by omega) hxl
                obtain ⟨t, ht⟩ : ∃ t, t = r * 4294967296 + x := ⟨_, rfl⟩
                rw [← ht] at hor
                have htl : t < 18446744073709551616 := by omega
                have hset := divN_digs (B := 4294967296) (X := A) (y := D) (j := k) (m := m) (by omega) hDpos (by omega)
                have hrs := rest_step (B := 4294967296) (X := A) (y := D) (j := k) (by omega) hDpos
                rw [← hr, ← hx, ← ht] at hset hrs
                obtain ⟨q, hq⟩ : ∃ q, q = t / D := ⟨_, rfl⟩
                obtain ⟨r2, hr2⟩ : ∃ r2, r2 = t % D := ⟨_, rfl⟩
                rw [← hq] at hset
                rw [← hr2] at hrs
                have hql : q < 4294967296 := by
                  rw [hq, Nat.div_lt_iff_lt_mul hDpos, ht]
                  have h1 : (r + 1) * 4294967296 ≤ D * 4294967296 := Nat.mul_le_mul_right _ hrl
                  omega
                have hr2l : r2 < 4294967296 := by rw [hr2]; exact Nat.lt_trans (Nat.mod_lt _ hDpos) hDl
                have e1 : (t : Int).tdiv (D : Int) = (q : Int) := by rw [hq]; rfl
                have e2 : (t : Int).tmod (D : Int) = (r2 : Int) := by rw [hr2]; rfl
                have e3 : (t : Int) / (D : Int) = (q : Int) := by rw [hq]; rfl
                have e4 : (t : Int) % (D : Int) = (r2 : Int) := by rw [hr2]; rfl
                have e5 : ((D : Int) == 0) = false := by simp; omega
                have e6 : IntKind.u64.wrap (q : Int) = q := by rw [IntKind.wrap_u64]; omega
                have e7 : IntKind.u64.wrap (r2 : Int) = r2 := by rw [IntKind.wrap_u64]; omega
                have e8 : IntKind.u64.wrap (D : Int) = D := by rw [IntKind.wrap_u64]; omega
                have hrl2 : r < 4294967296 := by omega
                have e10 : IntKind.u64.wrap ((r : Int) * 4294967296) = (r : Int) * 4294967296 := by rw [IntKind.wrap_u64]; omega
                have e9 : IntKind.u32.wrap (q : Int) = q := by rw [IntKind.wrap_u32]; omega
                have hkm : k < m := by omega
                have hst := blk_setn hB k q
                rw [hset, show wvn q = Value.int .u32 (q : Int) from rfl] at hst
                have HP := Lib.hid (show OneRel w gx gy A D m (.int .u64 (r2 : Int)) (.int .i64 ((k : Int) - 1)) (wr.setCell ⟨gx, k, none⟩ (.int .u32 (q : Int))).drew from ⟨k, by omega, idx_or k, by rw [← hrs], hst, hBy.far (show gy ≠ gx from fun e => hgne e.symm) _, (hbw.setCell hgx _).drew⟩)
                rw [← hr]
                clear hr hx hq hr2 ht hset hrs hB hBy hbw hrl hst
                go_wp2
                go_region
                go_wp2
                go_roundw
                case rel => exact HP.out
                case measure => simp [intOf]
          · have HL := Lib.hid (long_any w2 gx gy m n A D (by omega) hle hw1 hX2 hY HAl.out HDl.out HDt.out hgne)
            have hqB : A / D < 4294967296 ^ (m + 1 - n) := by
              rw [Nat.div_lt_iff_lt_mul hDpos]
              refine Nat.lt_of_lt_of_le HAl.out ?_
              have e : (4294967296 : Nat) ^ m = 4294967296 ^ (m + 1 - n) * 4294967296 ^ (n - 1) := by rw [← Nat.pow_add]; congr 1; omega
              rw [e]
              exact Nat.mul_le_mul_left _ HDt.out
            have hrB : A % D < 4294967296 ^ n := Nat.lt_trans (Nat.mod_lt _ hDpos) HDl.out
            have HqB := Lib.hid (Nat.mod_eq_of_lt hqB)
            have HrB := Lib.hid (Nat.mod_eq_of_lt hrB)
            have hn1i : ((n : Int) == 1) = false := by simp; omega
            obtain ⟨lq, hlq⟩ : ∃ lq, lq = m + 1 - n := ⟨_, rfl⟩
            have hlql : lq ≤ 8796093022208 := by omega
            have HL' := Lib.hid (show Calls Tryd.prog 111 #[.slice (some ⟨gx, 0, none⟩) m m, .slice (some ⟨gy, 0, none⟩) n n] w2 (fun e w' => ∃ gq gr c, e = .returned (.tuple #[.slice (some ⟨gq, 0, none⟩) lq lq, .slice (some ⟨gr, 0, none⟩) n c]) ∧ Blk w' gq 137 ((digs 4294967296 lq (A / D)).map wvn).toArray ∧ Blk w' gr 137 ((digs 4294967296 (m + 1) (A % D)).map wvn).toArray ∧ Below w2.heap.size w2 w') by rw [hlq]; exact HL.out)
            rw [← hlq] at HqB
            clear hX2 hY HL hqB hrB hlq
            go_wp2_with fail
            refine HL'.out.mono ?_
            rintro e w3 ⟨gq, gr, c, rfl, hBq, hBr, hb3⟩
            have HT1 := Lib.hid (text_any w3 (some ⟨gq, 0, none⟩) lq lq (A / D) hlql (Rd.blk hBq (by simp [digs_len])))
            have hrd : Rd w3 w3.heap.size 1 (some ⟨gr, 0, none⟩) n ((digs 4294967296 n (A % D)).map wvn) := by
              have h1 := (Rd.blk hBr (n := m + 1) (by simp [digs_len])).take (k := n) (by omega)
              rwa [Nat.mul_one, ← List.map_take, digs_take _ _ _ _ (by omega)] at h1
            have HT2 := Lib.hid (show ∀ w', Below w3.heap.size w3 w' → Calls Tryd.prog 99 #[.slice (some ⟨gr, 0, none⟩) n c] w' fun e w'' => e = .returned (.string (natS (A % D % 4294967296 ^ n))) ∧ Below w'.heap.size w' w'' from fun w' hb => text_any w' (some ⟨gr, 0, none⟩) n c (A % D) (by omega) ((hrd.below hb).more hb.size))
            have Hb3 := Lib.hid (Hb.out.trans (hb3.mono Hb.out.size))
            clear hBq hBr hb3 hrd
            go_wp2_with fail
            refine HT1.out.mono ?_
            rintro e w4 ⟨rfl, hb4⟩
            go_wp2_with fail
            refine (HT2.out w4 hb4).mono ?_
            rintro e w5 ⟨rfl, hb5⟩
            go_wp2
            go_ret3
            exact DivPost.of HD0.out (by rw [HqB.out]) (by rw [HrB.out]) rfl (Hb3.out.trans ((hb4.trans (hb5.mono hb4.size)).mono Hb3.out.size))
end Go.Proofs.YthmgcbpmfipfiaaDoor
