/- gantkeep5.table: some table of leases. Conditions: those typed. -/
import Derived.Test.YtambngbkegnghaaTabNew
namespace Go.Proofs.Ytambngbkegnghaa
open Go.RowKit Go.Gy
set_option linter.unusedVariables false
def Good (st : Tab) (n : Nat) : Prop := Safe st ∧ Must st ∧ st.1.length = n
theorem Good.ask {st : Tab} {n : Nat} (h : Good st n) (arm : Int) (cells : List Cell) : Good (askF st arm cells).2 n :=
  ⟨(h.1.ask h.2.1 arm cells).1, (h.1.ask h.2.1 arm cells).2, by rw [askF_len]; exact h.2.2⟩
theorem Good.done {st : Tab} {n : Nat} (h : Good st n) (arm : Int) (cells : List Cell) : Good (doneF st arm cells).2 n :=
  ⟨(h.1.done h.2.1 arm cells).1, (h.1.done h.2.1 arm cells).2, by rw [doneF_len]; exact h.2.2⟩
def TablePost (n : Nat) (w : World) (e : Ending) (w' : World) : Prop := ∃ (st : Tab) (p : Nat), e = .returned (.tuple #[.pointer (some ⟨p, 0, none⟩), .bool true]) ∧ TabAt w' w.heap.size p st [] ∧ Good st n ∧ Below w.heap.size w w'
def TabRel (w : World) (n m : Nat) (i : Value) (wr : World) : Prop := ∃ (k : Nat) (st : Tab), k ≤ m ∧ i = .int .i64 (k : Int) ∧ TabAt wr w.heap.size (w.heap.size + 1) st [] ∧ Good st n ∧ Below w.heap.size w wr
theorem three_sli (w : World) (a b c : Int) : SlI (w.alloc (.cells #[.int .i64 a, .int .i64 b, .int .i64 c] 3)) (w.alloc (.cells #[.int .i64 a, .int .i64 b, .int .i64 c] 3)).heap.size (.slice (some ⟨w.heap.size, 0, none⟩) 3 3) [a, b, c] :=
  ⟨some ⟨w.heap.size, 0, none⟩, 3, 3, rfl, rfl, Nat.le_refl _, (fun h => by cases h), (Rd.lit w 3 [.int .i64 a, .int .i64 b, .int .i64 c] 1 3 rfl).more (by simp)⟩
theorem Good.few {st : Tab} {n : Nat} (h : Good st n) (arm : Int) : (cellsT st arm).length ≤ 400 := by
  unfold cellsT
  split
  · simp
  · exact cellsF_len (h.1.fit.cells _)
set_option maxRecDepth 100000 in
set_option maxHeartbeats 2000000 in
theorem table_any (w : World) (n : Nat) (v : Value) (l : List Int) (h1 : 1 ≤ n) (h4 : n ≤ 4) (hv : SlI w w.heap.size v l) :
    Calls Try.prog 19 #[.int .i64 (n : Int), v] w (TablePost n w) := by
  obtain ⟨A, ln, c, rfl, hln, hnc, hA, hr⟩ := hv
  have HN := Lib.hid (new_any w n h1 h4)
  obtain ⟨m, hm⟩ : ∃ m : Nat, m = min ln 60 := ⟨_, rfl⟩
  have hmn : m ≤ ln := by omega
  have hm60 : m ≤ 60 := by omega
  have hmin : min (ln : Int) 60 = (m : Int) := by omega
  have Hmin := Lib.hid hmin
  have hmc : m ≤ c := by omega
  have hn0 : (0 : Int) < (n : Int) := by omega
  have hnb : (n : Int) ≤ 4294967296 := by omega
  have Hln := Lib.hid hln
  clear hmin hm hln
  go_enter Try.func19, Try.ntmps19
  go_wp2_with fail
  refine HN.out.mono ?_
  rintro e w1 ⟨rfl, hT1, hb1⟩
  have HR := Lib.hid (show TabRel w n m (.int .i64 0) w1 from ⟨0, _, Nat.zero_le _, rfl, hT1, ⟨(emptyT_safe n h4).1, (emptyT_safe n h4).2, by simp [emptyT]⟩, hb1⟩)
  clear hT1 hb1 HN
  go_wp2_with (first | (refine wpList_min2 rfl (.tmp 26) (.const (.int .i64 60)) _ rfl (ln : Int) 60 rfl rfl (m : Int) Hmin.out ?_) | (refine wpList_slice_to rfl 22 (.tmp 24) (.tmp 27) rfl A ln c m rfl rfl (by kernel_rfl) (fun w => ints_to A ln c m hmc w) ?_))
  go_loopw [30] (fun i wr => TabRel w n m i wr) (fun i _ => m - (intOf i).toNat)
  case atStart => exact HR.out
  case round =>
    obtain ⟨k, st, hk, rfl, hT, hG, hb⟩ := hrel
    by_cases hkm : k < m
    · obtain ⟨b, o, x, rfl, hbb, hx, hcx⟩ := (hr.below hb).one (show k < ln by omega)
      have HB := Lib.hid (fun x => below_any x (n : Int) wr hn0 hnb)
      have HB4 := Lib.hid (fun x (wr : World) => below_any x 4 wr (by decide) (by decide))
      have HT := Lib.hid hT
      have HG := Lib.hid hG
      have Hb := Lib.hid hb
      have hal : ∀ X, Below wr.heap.size wr (wr.alloc X) := fun X => (Below.refl _ _).alloc (Nat.le_refl _) _
      have HC := Lib.hid (fun a b c => cells_any _ _ _ (three_sli wr a b c) (show ([a, b, c] : List Int).length ≤ 140737488355328 by simp))
      have HbA := Lib.hid (fun X => hb.trans ((hal X).mono hb.size))
      have HTA := Lib.hid (fun X => hT.below (hal X))
      have HsA := Lib.hid (show ∀ X : Obj, w.heap.size ≤ (wr.alloc X).heap.size from fun X => by have := hb.size; simp; omega)
      clear hT hG hb hal hx
      go_wp2_with fail
      refine (HB.out _).mono ?_
      rintro e w' ⟨rfl, rfl⟩
      go_wp2_with fail
      refine (HC.out _ _ _).mono ?_
      rintro e w2 ⟨v2, cs, rfl, hcs8, hcs0, hown2, hb2⟩
      have Hb2 := Lib.hid ((HbA.out _).trans (hb2.mono (HsA.out _)))
      have HT2 := Lib.hid ((HTA.out _).below hb2)
      have HT2v := Lib.hid ((HTA.out _).add hb2 hown2)
      have Hv2 := Lib.hid (SlC.own hown2)
      have Hcs := Lib.hid hcs8
      obtain ⟨A2, c2, rfl, _⟩ := own_rd hown2
      clear hcs8 hcs0 hown2 hb2
      go_wp2_with fail
      refine (HB4.out _ _).mono ?_
      rintro e w' ⟨rfl, rfl⟩
      generalize x % (n : Int) = arm
      generalize wrap64 (x.tdiv 5) % 4 = y
      by_cases hy0 : y = 0
      · subst hy0
        have HK := Lib.hid (ask_any w2 _ _ st [] arm (.slice A2 cs.length c2) cs HT2.out HG.out.1.fit Hv2.out (by have := Hcs.out; omega))
        go_wp2_with fail
        refine HK.out.mono ?_
        rintro e w3 ⟨rfl, hT3, hb3⟩
        have HR3 := Lib.hid (show TabRel w n m (.int .i64 ((k + 1 : Nat) : Int)) w3 from ⟨k + 1, _, by omega, rfl, hT3, HG.out.ask _ _, Hb2.out.trans hb3⟩)
        clear hT3 hb3 HK
        go_wp2_with fail
        go_roundw
        case rel => have h := HR3.out; rw [Int.natCast_add] at h; exact h
        case measure => simp [intOf]; omega
      by_cases hy1 : y = 1
      · subst hy1
        have HK := Lib.hid (ask_any w2 _ _ st [] arm (.slice A2 cs.length c2) cs HT2.out HG.out.1.fit Hv2.out (by have := Hcs.out; omega))
        go_wp2_with fail
        refine HK.out.mono ?_
        rintro e w3 ⟨rfl, hT3, hb3⟩
        have HR3 := Lib.hid (show TabRel w n m (.int .i64 ((k + 1 : Nat) : Int)) w3 from ⟨k + 1, _, by omega, rfl, hT3, HG.out.ask _ _, Hb2.out.trans hb3⟩)
        clear hT3 hb3 HK
        go_wp2_with fail
        go_roundw
        case rel => have h := HR3.out; rw [Int.natCast_add] at h; exact h
        case measure => simp [intOf]; omega
      have HCe := Lib.hid (cells_of w2 _ _ st _ arm HT2v.out HG.out.1.fit)
      have f0 : (y == 0) = false := by simpa using hy0
      have f1 : (y == 1) = false := by simpa using hy1
      by_cases hy2 : y = 2
      · subst hy2
        clear f0 f1 hy0 hy1
        go_wp2_with fail
        refine HCe.out.mono ?_
        rintro e w3 ⟨A3, n3, c3, rfl, hl3, hown3, hb3⟩
        have HT3 := Lib.hid (HT2v.out.add hb3 hown3)
        have Hb3 := Lib.hid (Hb2.out.trans (hb3.mono Hb2.out.size))
        have HM := Lib.hid (meet_any w3 (.slice A3 n3 c3) (.slice A2 cs.length c2) (cellsT st arm) cs (SlC.own hown3) (HT3.out.slc (x := (.slice A2 cs.length c2, cs)) (by simp)) (by have := HG.out.few arm; omega) (by have := Hcs.out; omega))
        clear hl3 hown3 hb3 HCe
        go_wp2_with fail
        refine HM.out.mono ?_
        rintro e w4 ⟨A4, n4, c4, rfl, hl4, hown4, hb4⟩
        have HT4 := Lib.hid ((HT3.out.below hb4).sub (X' := []) (by simp))
        have HbL := Lib.hid (Hb3.out.trans (hb4.mono Hb3.out.size))
        have HD := Lib.hid (done_any w4 _ _ st [] arm (.slice A4 n4 c4) _ HT4.out HG.out.1.fit (SlC.own hown4) (Nat.le_trans (List.length_filter_le _ _) (Nat.le_trans (sort_len _) (by have := HG.out.few arm; omega))))
        clear hl4 hown4 hb4 HM
        go_wp2_with fail
        refine HD.out.mono ?_
        rintro e w5 ⟨rfl, hT5, hb5⟩
        have HR5 := Lib.hid (show TabRel w n m (.int .i64 ((k + 1 : Nat) : Int)) w5 from ⟨k + 1, _, by omega, rfl, hT5, HG.out.done _ _, HbL.out.trans hb5⟩)
        clear hT5 hb5 HD
        go_wp2_with fail
        go_roundw
        case rel => have h := HR5.out; rw [Int.natCast_add] at h; exact h
        case measure => simp [intOf]; omega
      have f2 : (y == 2) = false := by simpa using hy2
      go_wp2_with fail
      refine HCe.out.mono ?_
      rintro e w3 ⟨A3, n3, c3, rfl, hl3, hown3, hb3⟩
      have HbL := Lib.hid (Hb2.out.trans (hb3.mono Hb2.out.size))
      have HD := Lib.hid (done_any w3 _ _ st [] arm (.slice A3 n3 c3) _ ((HT2.out.below hb3)) HG.out.1.fit (SlC.own hown3) (by have := HG.out.few arm; omega))
      clear hl3 hown3 hb3 HCe
      go_wp2_with fail
      refine HD.out.mono ?_
      rintro e w5 ⟨rfl, hT5, hb5⟩
      have HR5 := Lib.hid (show TabRel w n m (.int .i64 ((k + 1 : Nat) : Int)) w5 from ⟨k + 1, _, by omega, rfl, hT5, HG.out.done _ _, HbL.out.trans hb5⟩)
      clear hT5 hb5 HD
      go_wp2_with fail
      go_roundw
      case rel => have h := HR5.out; rw [Int.natCast_add] at h; exact h
      case measure => simp [intOf]; omega
    · obtain rfl : k = m := by omega
      clear hr
      go_wp2_with fail
      go_ret2
      exact ⟨st, _, rfl, hT, hG, hb⟩
end Go.Proofs.Ytambngbkegnghaa
