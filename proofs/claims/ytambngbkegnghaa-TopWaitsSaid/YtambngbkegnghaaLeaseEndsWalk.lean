/- LeaseEnds' walk: it returns true. Conditions: the reach. -/
import Derived.Test.YtambngbkegnghaaTabMake
namespace Go.Proofs.Ytambngbkegnghaa.leaseEnds
open Go.RowKit Go.Gy
set_option linter.unusedVariables false
theorem waits_nil {st : Tab} (h : Safe st) (arm : Int) : waitsT st arm = [] ↔ atF st arm < 0 := by
  rcases atF_cases st arm with ⟨hat, _⟩ | ⟨ix, y, hat, hix, hy, hyk⟩
  · rw [waitsT_none hat, hat]; simp
  · rw [waitsT_some hat hy, hat]
    exact ⟨fun e => absurd e (h.ne y (List.mem_of_getElem? hy)), fun e => absurd e (by omega)⟩
theorem cellsT_nat (st : Tab) (j : Nat) : cellsT st j = st.1.getD j [] := by
  unfold cellsT
  rw [if_neg (by omega), Int.toNat_natCast]
def Rel (w : World) (p n : Nat) (x : Tab) (wr : World) : Prop := TabAt wr w.heap.size p x [] ∧ Good x n ∧ Below w.heap.size w wr
theorem good_round {st : Tab} {n : Nat} (h : Good st n) (k : Nat) : Good (roundF st k) n := ⟨(Safe.round ⟨h.1, h.2.1⟩ k).1, (Safe.round ⟨h.1, h.2.1⟩ k).2, by rw [roundF_len]; exact h.2.2⟩
theorem good_ends {st : Tab} {n : Nat} (h : Good st n) (k : Nat) : Good (endsF st k) n := ⟨(Safe.ends ⟨h.1, h.2.1⟩ k).1, (Safe.ends ⟨h.1, h.2.1⟩ k).2, by rw [endsF_len]; exact h.2.2⟩
set_option maxRecDepth 100000 in
set_option maxHeartbeats 2000000 in
theorem walk (a0 : Int) (v : Value) (w : World) {b0 : Nat} (w0 : wfI .i64 a0) (f1 : IntsArg w v b0) :
    Calls Try.prog 4 #[.int .i64 a0, v] w fun e w' => e = .returned (.bool true) ∧ Below w.heap.size w w' := by
  obtain ⟨l, hl, hi, _, hlb⟩ := f1
  obtain ⟨n, hn⟩ : ∃ n : Nat, (n : Int) = 1 + a0 % 4 := ⟨(1 + a0 % 4).toNat, by omega⟩
  have hn1 : 1 ≤ n := by omega
  have hn4 : n ≤ 4 := by omega
  have HL := Lib.hid (leases_any w)
  have HB := Lib.hid (fun w => below_any a0 4 w (by decide) (by decide))
  have Hl := Lib.hid hl
  have Hn := Lib.hid hn
  obtain ⟨A, c, len, rfl, hlx⟩ := id hl
  clear hl hi w0 hlb hn hlx
  go_enter Try.func4, Try.ntmps4
  go_wp2_with fail
  refine HL.out.mono ?_
  rintro e w1 ⟨rfl, hb1⟩
  have Hl1 := Lib.hid ((Hl.out.below hb1).more hb1.size)
  have Hb1 := Lib.hid hb1
  clear hb1 HL
  go_wp2_with fail
  refine (HB.out _).mono ?_
  rintro e w' ⟨rfl, rfl⟩
  have hw1 : IntKind.i64.wrap (1 + a0 % 4) = (n : Int) := by rw [← Hn.out]; exact IntWalk.i64_in _ (by omega)
  have hw2 : 1 + a0 % 4 = (n : Int) := Hn.out.symm
  have HT := Lib.hid (table_any w1 n _ l hn1 hn4 Hl1.out)
  go_wp2_with fail
  refine HT.out.mono ?_
  rintro e w2 ⟨st, p, rfl, hT2, hG2, hb2⟩
  have hR0 : Rel w1 p n (endsF st 0) w2 := ⟨hT2, hG2, hb2⟩
  have HR0 := Lib.hid hR0
  have HG := Lib.hid hG2
  clear hw1 hw2 HT HB hT2 hG2 hb2 hR0
  have hn5 : IntKind.i64.wrap ((n : Int) + 1) = (n : Int) + 1 := IntWalk.i64_in _ (by omega)
  go_wp2_with fail
  go_loopw [24] (fun i wr => ∃ r : Nat, r ≤ n + 1 ∧ i = .int .i64 (r : Int) ∧ Rel w1 p n (endsF st r) wr) (fun i _ => n + 1 - (intOf i).toNat)
  case atStart => exact ⟨0, Nat.zero_le _, rfl, HR0.out⟩
  case round =>
    obtain ⟨r, hr, rfl, hR⟩ := hrel
    have HR := Lib.hid hR
    clear hR
    by_cases hlt : r < n + 1
    · have hlt2 : (r : Int) < (n : Int) + 1 := by omega
      have Hlt := Lib.hid hlt
      go_wp2_with fail
      obtain ⟨w9, rfl⟩ : ∃ w9, w9 = wr := ⟨_, rfl⟩
      go_loopw [27] (fun i wr => ∃ k : Nat, k ≤ n ∧ i = .int .i64 (k : Int) ∧ Rel w1 p n (roundF (endsF st r) k) wr) (fun i _ => n - (intOf i).toNat)
      case atStart => exact ⟨0, Nat.zero_le _, rfl, HR.out⟩
      case round =>
        obtain ⟨k, hk, rfl, hT, hG, hb⟩ := hrel
        have HT := Lib.hid hT
        have HG2 := Lib.hid hG
        have Hb := Lib.hid hb
        have HE := Lib.hid (show roundF (endsF st r) (k + 1) = dropF (roundF (endsF st r) k) k from rfl)
        obtain ⟨s, hs⟩ : ∃ s, s = roundF (endsF st r) k := ⟨_, rfl⟩
        rw [← hs] at HT HG2 HE
        have Hs := Lib.hid hs
        clear hT hG hb hs
        by_cases hkn : k < n
        · have HW := Lib.hid (waits_of wr _ p s [] k HT.out HG2.out.1.fit)
          go_wp2_with fail
          refine HW.out.mono ?_
          rintro e w3 ⟨A3, n3, c3, rfl, hl3, hown3, hb3⟩
          have HT3 := Lib.hid (HT.out.below hb3)
          have Hb3 := Lib.hid (Hb.out.trans (hb3.mono Hb.out.size))
          have Hl3 := Lib.hid hl3
          clear hown3 hb3 hl3 HW
          by_cases h0 : n3 = 0
          · subst h0
            have hat : atF s k < 0 := (waits_nil HG2.out.1 k).1 (List.eq_nil_of_length_eq_zero Hl3.out)
            have HD0 := Lib.hid (show dropF s k = (doneF s k (s.1.getD k [])).2 from by unfold dropF; rw [if_pos hat])
            have HD1 := Lib.hid (doneF_own HG2.out.1.fit (show k < s.1.length by rw [HG2.out.2.2]; exact hkn))
            have HC := Lib.hid (cells_of w3 _ p s [] k HT3.out HG2.out.1.fit)
            rw [cellsT_nat] at HC
            clear hat
            go_wp2_with fail
            refine HC.out.mono ?_
            rintro e w4 ⟨A4, n4, c4, rfl, hl4, hown4, hb4⟩
            have Hb4 := Lib.hid (Hb3.out.trans (hb4.mono Hb3.out.size))
            have HD := Lib.hid (done_any w4 _ p s [] k (.slice A4 n4 c4) _ (HT3.out.below hb4) HG2.out.1.fit (SlC.own hown4) (by have := HG2.out.few k; rw [cellsT_nat] at this; omega))
            clear hl4 hown4 hb4 HC
            go_wp2_with fail
            refine HD.out.mono ?_
            rintro e w5 ⟨rfl, hT5, hb5⟩
            have HR5 := Lib.hid (show Rel w1 p n (roundF (endsF st r) (k + 1)) w5 from by rw [HE.out, HD0.out]; exact ⟨hT5, HG2.out.done _ _, Hb4.out.trans hb5⟩)
            rw [HD1.out]
            clear hT5 hb5 HD
            go_wp2_with fail
            go_roundw
            case rel => exact ⟨k + 1, by omega, by go_num, HR5.out⟩
            case measure => simp [intOf]; omega
          · have hat : ¬ atF s k < 0 := fun h => h0 (by rw [← Hl3.out, (waits_nil HG2.out.1 k).2 h]; rfl)
            have HR5 := Lib.hid (show Rel w1 p n (roundF (endsF st r) (k + 1)) w3 from by
              rw [HE.out]
              unfold dropF
              rw [if_neg hat]
              exact ⟨HT3.out, HG2.out, Hb3.out⟩)
            have h01 : ¬ (n3 : Int) = 0 := by omega
            have h02 : ((n3 : Int) == 0) = false := by simpa using h01
            clear hat h0
            go_wp2_with fail
            go_roundw
            case rel => exact ⟨k + 1, by omega, by go_num, HR5.out⟩
            case measure => simp [intOf]; omega
        · obtain rfl : k = n := by omega
          have HR5 := Lib.hid (show Rel w1 p k (endsF st (r + 1)) wr from by
            show Rel w1 p k (roundF (endsF st r) st.1.length) wr
            rw [HG.out.2.2]
            exact ⟨by rw [← Hs.out]; exact HT.out, by rw [← Hs.out]; exact HG2.out, Hb.out⟩)
          go_wp2_with fail
          go_roundw
          case rel => exact ⟨r + 1, by have := Hlt.out; omega, by go_num, HR5.out⟩
          case measure => have := Hlt.out; simp [intOf]; omega
    · obtain rfl : r = n + 1 := by omega
      have hlaw := ends_law (st := st) ⟨HG.out.1, HG.out.2.1⟩
      rw [HG.out.2.2] at hlaw
      obtain ⟨s, hs⟩ : ∃ s, s = endsF st (n + 1) := ⟨_, rfl⟩
      rw [← hs] at hlaw HR
      have HC0 := Lib.hid (show ∀ k : Nat, cellsT s k = [] from fun k => by rw [cellsT_nat]; exact hlaw.2 k)
      have HW0 := Lib.hid (show ∀ k : Nat, waitsT s k = [] from fun k => (waits_nil HR.out.2.1.1 k).2 (by unfold atF; rw [hlaw.1]; exact (by decide : (-1 : Int) < 0)))
      have HL0 := Lib.hid (show s.2.map Prod.fst = [] by rw [hlaw.1]; rfl)
      have HF := Lib.hid HR.out.2.1.1.fit
      have q1 : ¬ (((n + 1 : Nat) : Int) < (n : Int) + 1) := by omega
      clear hlaw hs hlt
      go_wp2_with fail
      obtain ⟨w9, rfl⟩ : ∃ w9, w9 = wr := ⟨_, rfl⟩
      go_loopw [47] (fun i wr => ∃ k : Nat, k ≤ n ∧ i = .int .i64 (k : Int) ∧ TabAt wr w1.heap.size p s [] ∧ Below w1.heap.size w1 wr) (fun i _ => n - (intOf i).toNat)
      case atStart => exact ⟨0, Nat.zero_le _, rfl, HR.out.1, HR.out.2.2⟩
      case round =>
        obtain ⟨k, hk, rfl, hT, hb⟩ := hrel
        have HT := Lib.hid hT
        have Hb := Lib.hid hb
        clear hT hb
        by_cases hkn : k < n
        · have HW := Lib.hid (waits_of wr _ p s [] k HT.out HF.out)
          rw [HW0.out] at HW
          go_wp2_with fail
          refine HW.out.mono ?_
          rintro e w3 ⟨A3, n3, c3, rfl, hl3, hown3, hb3⟩
          obtain rfl : n3 = 0 := hl3.symm
          have HT3 := Lib.hid (HT.out.below hb3)
          have Hb3 := Lib.hid (Hb.out.trans (hb3.mono Hb.out.size))
          have HC := Lib.hid (cells_of w3 _ p s [] k HT3.out HF.out)
          rw [HC0.out] at HC
          clear hown3 hb3 hl3 HW
          go_wp2_with fail
          refine HC.out.mono ?_
          rintro e w4 ⟨A4, n4, c4, rfl, hl4, hown4, hb4⟩
          obtain rfl : n4 = 0 := hl4.symm
          have HT4 := Lib.hid (HT3.out.below hb4)
          have Hb4 := Lib.hid (Hb3.out.trans (hb4.mono Hb3.out.size))
          clear hown4 hb4 hl4 HC
          go_wp2_with fail
          go_roundw
          case rel => exact ⟨k + 1, by omega, by go_num, HT4.out, Hb4.out⟩
          case measure => simp [intOf]; omega
        · obtain rfl : k = n := by omega
          have HLn := Lib.hid (line_of wr _ p s [] HT.out HF.out)
          rw [HL0.out] at HLn
          go_wp2_with fail
          refine HLn.out.mono ?_
          rintro e w3 ⟨v3, rfl, hown3, hb3⟩
          have Hb3 := Lib.hid (Hb1.out.trans ((Hb.out.trans (hb3.mono Hb.out.size)).mono Hb1.out.size))
          obtain ⟨A3, c3, rfl, _⟩ := own_rd hown3
          clear hown3 hb3 HLn
          go_wp2_with fail
          go_ret
          exact ⟨rfl, Hb3.out⟩
end Go.Proofs.Ytambngbkegnghaa.leaseEnds
