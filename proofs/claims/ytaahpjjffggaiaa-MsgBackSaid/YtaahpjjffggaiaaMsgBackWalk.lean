/- MsgBack's walk: it returns true. Conditions: the reach. -/
import Derived.Test.YtaahpjjffggaiaaMakeMsg
import Derived.Test.YtaahpjjffggaiaaRead
import Derived.Test.YtaahpjjffggaiaaLogOpen
namespace Go.Proofs.Ytaahpjjffggaiaa.msgBack
open Go.RowKit Go.Gy
set_option linter.unusedVariables false
theorem own_set {w : World} {g n q x cap : Nat} {cur : Array Value} {b : List Nat} (hB : Blk w g 5 cur) (htk : cur.toList.take (n * 1) = b.map bv) (hl : b.length = n) (hq : q < n) (hnc : n ≤ cap) :
    SlB (w.setCell ⟨g, q, none⟩ (.int .u8 (x : Int))) (w.setCell ⟨g, q, none⟩ (.int .u8 (x : Int))).heap.size (.slice (some ⟨g, 0, none⟩) n cap) (b.set q x) := by
  have hB' := hB.set q (.int .u8 (x : Int))
  have hcl : n ≤ cur.size := by
    have := congrArg List.length htk
    simp at this
    omega
  refine ⟨_, n, cap, rfl, by rw [List.length_set, hl], hnc, (fun h => by cases h), ⟨by simp [hl], fun _ => ⟨g, 0, rfl, hB'.lt, fun j u hu => ?_⟩⟩⟩
  rw [Nat.zero_add]
  refine hB'.cell j u ?_
  rw [List.getElem?_map, List.getElem?_set] at hu
  rw [Array.getElem?_setIfInBounds]
  by_cases hj : q = j
  · subst hj
    rw [if_pos rfl, if_pos (by omega)] at hu
    rw [if_pos rfl, if_pos (by omega)]
    exact hu
  · rw [if_neg hj] at hu
    rw [if_neg hj]
    have h1 : (cur.toList.take (n * 1))[j]? = some u := by rw [htk, List.getElem?_map]; exact hu
    rw [List.getElem?_take] at h1
    split at h1
    · simpa using h1
    · cases h1

def beatY : GMsg := ⟨3, 2, 1, 0, 0, []⟩
theorem beatY_zero : msgF beatY = 0 := by decide
set_option maxRecDepth 100000 in
set_option maxHeartbeats 4000000 in
theorem walk (v0 : Value) (i : Int) (y : Int) (w : World) {b0 : Nat} (f0 : IntsArg w v0 b0) (w1 : wfI .i64 i) (w2 : wfI .u8 y) :
    Calls Try.prog 4 #[v0, .int .i64 i, .int .u8 y] w fun e w' => e = .returned (.bool true) ∧ Below w.heap.size w w' := by
  obtain ⟨l, hl, _, _, hlb⟩ := f0
  have hlb' : l.length ≤ 140737488355328 := by unfold reachBytes at hlb; omega
  have Hy := Lib.hid (wf_u8 w2)
  have Hl := Lib.hid hl
  have hbA : Below w.heap.size w (w.alloc (.cells (row6 3 2 1 0 0 (.slice none 0 0)) 28)) := (Below.refl _ _).alloc (Nat.le_refl _) _
  have HbA := Lib.hid hbA
  have HW := Lib.hid (write_any (w.alloc (.cells (row6 3 2 1 0 0 (.slice none 0 0)) 28)) beatY none 0 0 ⟨rfl, Nat.le_refl _, fun _ => ⟨rfl, rfl⟩, by omega, ⟨rfl, fun h => by omega⟩⟩ (by decide))
  obtain ⟨A, n, c, rfl, _⟩ := id hl
  clear hlb w1 w2 hbA hl
  go_enter Try.func4, Try.ntmps4
  go_wp2_with fail
  refine HW.out.mono ?_
  rintro e w1 ⟨v1, n2, he, hown1, hb1⟩
  rw [beatY_zero] at he
  subst he
  rw [if_pos beatY_zero] at hown1
  have hn2 := hown1.1
  rw [List.length_map, frameM_len] at hn2
  obtain rfl : n2 = 17 := by have : beatY.cells.length = 0 := rfl; omega
  obtain ⟨A2, c2, rfl, _, _, _⟩ := own_rd hown1
  have hbw1 := HbA.out.trans (hb1.mono HbA.out.size)
  have HM := Lib.hid (message_any w1 (.slice A n c) l ((Hl.out.below hbw1).more hbw1.size) hlb')
  have Hbw1 := Lib.hid hbw1
  clear hown1 hn2 hb1 HW HbA hbw1
  go_wp2_with fail
  refine HM.out.mono ?_
  rintro e w3 ⟨m, Am, nm, cm, rfl, hom, hml, hmc, hm8, hb3⟩
  have Hbw3 := Lib.hid (Hbw1.out.trans (hb3.mono Hbw1.out.size))
  have hat := MsgAt.of_own (m := m) hom hml (by omega)
  obtain ⟨w4, hw4⟩ : ∃ w4, w4 = w3.alloc (.cells (row6 m.kind m.src m.dst m.seq m.clock (.slice Am nm cm)) 28) := ⟨_, rfl⟩
  have hb34 : Below w3.heap.size w3 w4 := by rw [hw4]; exact (Below.refl _ _).alloc (Nat.le_refl _) _
  have hk4 : Blk w4 w3.heap.size 28 (row6 m.kind m.src m.dst m.seq m.clock (.slice Am nm cm)) := by rw [hw4]; exact Blk.new _ _ _
  have Hat4 := Lib.hid ((hat.below hb34).more hb34.size)
  have Hbw4 := Lib.hid (Hbw3.out.trans (hb34.mono Hbw3.out.size))
  have Hk4 := Lib.hid hk4
  have Hmc := Lib.hid hmc
  have HW4 := Lib.hid (write_any w4 m Am nm cm Hat4.out hmc)
  have HCk := Lib.hid (fun (w5 : World) (h5 : Below w4.heap.size w4 w5) => check_any w5 m Am nm cm ((Hat4.out.below h5).more h5.size))
  have HSm := Lib.hid (fun (w5 : World) (h5 : Below w4.heap.size w4 w5) (A' : Option Addr) (n' c' : Nat) (h' : MsgAt w5 w5.heap.size m A' n' c') => same_any w5 m m Am A' nm n' cm c' ((Hat4.out.below h5).more h5.size) h')
  obtain ⟨F, hF⟩ : ∃ F, F = msgF m := ⟨_, rfl⟩
  have HF := Lib.hid hF
  rw [← hF] at HCk
  unfold WritePost at HW4
  rw [← hF] at HW4
  obtain ⟨k, s, d, q, t, cs⟩ := m
  clear HM hom hml hmc hb3 hat hb34 hF
  have a0 := hk4.cell 0 _ rfl
  have a1 := hk4.cell 1 _ rfl
  have a2 := hk4.cell 2 _ rfl
  have a3 := hk4.cell 3 _ rfl
  have a4 := hk4.cell 4 _ rfl
  have a5 := hk4.cell 5 _ rfl
  have hwl := hk4.lt
  clear hk4
  go_wp2_with fail
  rw [← hw4]
  clear hw4
  refine HW4.out.mono ?_
  rintro e w5 ⟨v5, n5, rfl, hown5, hb5⟩
  have hk5 := Hk4.out.below hb5 hwl
  have a0 := hk5.cell 0 _ rfl
  have a1 := hk5.cell 1 _ rfl
  have a2 := hk5.cell 2 _ rfl
  have a3 := hk5.cell 3 _ rfl
  have a4 := hk5.cell 4 _ rfl
  have a5 := hk5.cell 5 _ rfl
  have hz5 := hb5.size
  have Hb5 := Lib.hid hb5
  have Hbw5 := Lib.hid (Hbw4.out.trans (hb5.mono Hbw4.out.size))
  obtain ⟨A5, c5, rfl, _, _, _⟩ := own_rd hown5
  have Hown5 := Lib.hid hown5
  clear hk5 hb5 HW4 hown5
  by_cases hF0 : F = 0
  · subst hF0
    have hfr := HF.out.symm
    have h5 := Hown5.out
    rw [if_pos rfl] at h5
    have hn5 := h5.1
    rw [List.length_map, Nat.mul_one] at hn5
    have hfl := frameM_len ⟨k, s, d, q, t, cs⟩
    have hcsl : cs.length = nm := Hat4.out.len
    have S5 := SlB.own (r := frameM ⟨k, s, d, q, t, cs⟩) h5
    obtain ⟨hre, hrm⟩ := back_law hfr Hmc.out
    have hf8 := frameM_lt (msgF_zero hfr).1
    have hfl2 : (frameM ⟨k, s, d, q, t, cs⟩).length ≤ 1000 := by rw [hfl]; simp only; omega
    have HRd := Lib.hid (read_msg w5 (.slice A5 n5 c5) (frameM ⟨k, s, d, q, t, cs⟩) S5 hf8 (by omega))
    unfold ReadMPost at HRd
    rw [hre, hrm] at HRd
    obtain ⟨b, hbd⟩ : ∃ b, b = frameM ⟨k, s, d, q, t, cs⟩ := ⟨_, rfl⟩
    rw [← hbd] at S5 hf8 hfl2 hfl hn5
    have HFl := Lib.hid (show ∀ (j z x : Nat), b[j]? = some z → x < 256 → z ≠ x → readE (b.set j x) ≠ 0 from fun j z x h1 h2 h3 => by rw [hbd] at h1 ⊢; exact flip_msg hfr h1 h2 h3)
    have HS5 := Lib.hid S5
    have H8 := Lib.hid hf8
    have Hn5 := Lib.hid hn5
    have hn17 : 17 ≤ n5 := by rw [← hn5, hfl]; omega
    have hn1000 : n5 ≤ 1000 := by rw [← hn5]; exact hfl2
    have hsame : sameM ⟨k, s, d, q, t, cs⟩ ⟨k, s, d, q, t, cs⟩ = true := by simp [sameM]
    rw [hsame] at HSm
    clear hfr h5 hn5 hfl hcsl S5 hre hrm hf8 hfl2 hbd hsame Hown5 HCk HF
    go_wp2_with fail
    refine HRd.out.mono ?_
    rintro e w6 ⟨A6, n6, c6, rfl, hat6, hb6⟩
    have hk6 := (Hk4.out.below Hb5.out hwl).below hb6 (by omega)
    have k0 := fun X => (hk6.alloc X).cell 0 _ rfl
    have k1 := fun X => (hk6.alloc X).cell 1 _ rfl
    have k2 := fun X => (hk6.alloc X).cell 2 _ rfl
    have k3 := fun X => (hk6.alloc X).cell 3 _ rfl
    have k4 := fun X => (hk6.alloc X).cell 4 _ rfl
    have k5 := fun X => (hk6.alloc X).cell 5 _ rfl
    obtain ⟨w7, hw7⟩ : ∃ w7, w7 = w6.alloc (.cells (row6 k s d q t (.slice A6 n6 c6)) 28) := ⟨_, rfl⟩
    have hb67 : Below w6.heap.size w6 w7 := by rw [hw7]; exact (Below.refl _ _).alloc (Nat.le_refl _) _
    have hb57 := hb6.trans (hb67.mono hb6.size)
    have HC := Lib.hid (HSm.out w7 (Hb5.out.trans (hb57.mono hz5)) A6 n6 c6 ((hat6.below hb67).more hb67.size))
    have Hbw7 := Lib.hid (Hbw5.out.trans (hb57.mono Hbw5.out.size))
    have HS7 := Lib.hid ((HS5.out.below hb57).more hb57.size)
    clear hk6 HRd hat6 hb6 hb67 hb57 HSm
    go_wp2_with fail
    rw [← hw7]
    clear hw7 k0 k1 k2 k3 k4 k5
    refine HC.out.mono ?_
    rintro e w8 ⟨rfl, hb8⟩
    have Hbw8 := Lib.hid (Hbw7.out.trans (hb8.mono Hbw7.out.size))
    have HS8 := Lib.hid ((HS7.out.below hb8).more hb8.size)
    clear HC hb8
    by_cases hy0 : y = 0
    · subst hy0
      go_wp2_with fail
      go_ret
      exact ⟨rfl, Hbw8.out⟩
    · have hyb : (y == 0) = false := by simpa using hy0
      have Hy0 := Lib.hid hy0
      have HCl := Lib.hid (clone_bytes w8 (.slice A5 n5 c5) b HS8.out (by rw [Hn5.out]; omega))
      have HBl := Lib.hid (fun w => below_any i (n5 : Int) w (by omega) (by omega))
      clear hy0
      go_wp2_with fail
      refine HCl.out.mono ?_
      rintro e w9 ⟨v9, rfl, hown9, hb9⟩
      rw [Hn5.out] at hown9
      have Hbw9 := Lib.hid (Hbw8.out.trans (hb9.mono Hbw8.out.size))
      have hg9' := Hbw8.out.size
      obtain ⟨hl9, ⟨_, h0⟩ | ⟨g, cap, cur, rfl, hg9, hblk, hnc9, hcm9, hcs9, htk9⟩⟩ := hown9
      · omega
      have Hblk := Lib.hid (show Blk w9 g 5 cur from hblk)
      obtain ⟨qi, hqi⟩ : ∃ qi : Nat, (qi : Int) = i % (n5 : Int) := ⟨(i % (n5 : Int)).toNat, by have := Int.emod_nonneg i (show (n5 : Int) ≠ 0 by omega); omega⟩
      have hq9 : qi < n5 := by have := Int.emod_lt_of_pos i (show (0 : Int) < (n5 : Int) by omega); omega
      have hq9' : (qi : Int) < (n5 : Int) := by omega
      rw [← hqi] at HBl
      obtain ⟨z, hz⟩ : ∃ z, b[qi]? = some z := ⟨b[qi]'(by rw [Hn5.out]; exact hq9), List.getElem?_eq_getElem _⟩
      have hz8 := H8.out z (List.mem_of_getElem? hz)
      have hcurq : cur[qi]? = some (.int .u8 (z : Int)) := by
        have h1 : (cur.toList.take (n5 * 1))[qi]? = some (bv z) := by rw [htk9, List.getElem?_map, hz]; rfl
        rw [List.getElem?_take, if_pos (by omega)] at h1
        simpa using h1
      have hc9 := Hblk.out.cell qi _ hcurq
      have hf9 := Hblk.out.free qi
      have hyN : y = ((y.toNat : Nat) : Int) := by have := Hy.out; omega
      have hy8 : y.toNat < 256 := by have := Hy.out; omega
      have hxor : bits .xor .u8 (z : Int) y = ((z ^^^ y.toNat : Nat) : Int) := by rw [hyN]; exact u8_xor_nat z y.toNat hz8 hy8
      obtain ⟨x, hx⟩ : ∃ x, x = z ^^^ y.toNat := ⟨_, rfl⟩
      have hx8 : x < 256 := by rw [hx]; exact Nat.xor_lt_two_pow (n := 8) hz8 hy8
      have hxz : z ≠ x := by
        intro h
        rw [hx] at h
        have h1 : z ^^^ 0 = z ^^^ y.toNat := by rw [Nat.xor_zero]; exact h
        have h2 := xor_cancel_left h1
        have := Hy0.out
        have := Hy.out
        omega
      rw [← hx] at hxor
      have Hne := Lib.hid (HFl.out qi z x hz hx8 hxz)
      have HS := Lib.hid (own_set (x := x) Hblk.out htk9 Hn5.out hq9 hnc9)
      have hbw10 : Below w.heap.size w (w9.setCell ⟨g, qi, none⟩ (.int .u8 (x : Int))) := Hbw9.out.setCell (p := ⟨g, qi, none⟩) (by show w.heap.size ≤ g; omega) _
      have Hbw10 := Lib.hid hbw10
      have HRd2 := Lib.hid (read_msg (w9.setCell ⟨g, qi, none⟩ (.int .u8 (x : Int))) _ (b.set qi x) HS.out (fun u hu => by
        rcases List.mem_or_eq_of_mem_set hu with h | h
        · exact H8.out u h
        · rw [h]; exact hx8) (by rw [List.length_set, Hn5.out]; omega))
      unfold ReadMPost at HRd2
      obtain ⟨re, hre⟩ : ∃ re, re = readE (b.set qi x) := ⟨_, rfl⟩
      rw [← hre] at HRd2 Hne
      obtain ⟨mm, hmm⟩ : ∃ mm, mm = readM (b.set qi x) := ⟨_, rfl⟩
      rw [← hmm] at HRd2
      clear hblk hz hcurq hx hxz htk9 hl9 hyN hy8 hqi HCl hb9 hre hmm HS hbw10 HFl
      go_wp2_with fail
      refine (HBl.out _).mono ?_
      rintro e w' ⟨rfl, rfl⟩
      clear HBl
      go_wp2_with fail
      refine HRd2.out.mono ?_
      rintro e w11 ⟨A11, n11, c11, rfl, hat11, hb11⟩
      have hne : ((re : Int) != 0) = true := by have := Hne.out; simpa using this
      have Hfin := Lib.hid (fun X => (Hbw10.out.trans (hb11.mono Hbw10.out.size)).alloc (Hbw10.out.trans (hb11.mono Hbw10.out.size)).size X)
      obtain ⟨k', s', d', q', t', cs'⟩ := mm
      clear HRd2 hat11 hb11
      go_wp2_with fail
      go_ret
      exact ⟨rfl, Hfin.out _⟩
  · have e1 : ((F : Int) == 0) = false := by simpa using hF0
    have e2 : ((F : Int) != 0) = true := by simpa using hF0
    have HC := Lib.hid (HCk.out w5 Hb5.out)
    clear hF0 HCk HSm
    go_wp2_with fail
    refine HC.out.mono ?_
    rintro e w6 ⟨rfl, hb6⟩
    have Hfin := Lib.hid (Hbw5.out.trans (hb6.mono Hbw5.out.size))
    clear HC hb6
    go_wp2_with fail
    go_ret
    exact ⟨rfl, Hfin.out⟩
end Go.Proofs.Ytaahpjjffggaiaa.msgBack
