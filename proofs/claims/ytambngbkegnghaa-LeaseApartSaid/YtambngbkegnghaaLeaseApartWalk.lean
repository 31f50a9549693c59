/- LeaseApart's walk: it returns true. Conditions: the reach. -/
import Derived.Test.YtambngbkegnghaaLeaseLoopWalk
import Derived.Test.YtambngbkegnghaaLeaseEndsWalk
import Derived.Test.YtambngbkegnghaaMapC
namespace Go.Proofs.Ytambngbkegnghaa.leaseApart
open Go.RowKit Go.Gy Go.Maps
set_option linter.unusedVariables false
theorem SetM.congr {w : World} {b n n' : Nat} {S T : Cell → Prop} (h : SetM w b n S) (hn : n ≤ n') (hc : ∀ c, S c ↔ T c) : SetM w b n' T := by
  obtain ⟨D, h1, h2⟩ := h
  exact ⟨D, h1.mono hn, fun c hw => by rw [← hc c]; exact h2 c hw⟩
theorem fresh_cell {st : Tab} (h : Safe st) {k j : Nat} {r : List Cell} {c : Cell} (hr : st.1[k]? = some r) (hc : r[j]? = some c) : c ∉ (st.1.take k).flatten ++ r.take j := by
  intro hm
  rcases List.mem_append.1 hm with hm | hm
  · obtain ⟨l, hl, hcl⟩ := List.mem_flatten.1 hm
    obtain ⟨i, hi⟩ := List.getElem?_of_mem hl
    rw [List.getElem?_take] at hi
    split at hi
    · exact h.apart i k (by omega) c (by rw [List.getD_eq_getElem?_getD, hi]; exact hcl) (by rw [List.getD_eq_getElem?_getD, hr]; exact List.mem_of_getElem? hc)
    · cases hi
  · have hs := ((cellsF_sorted r).1 (h.fit.has r (List.mem_of_getElem? hr))).2.2
    obtain ⟨i, hi⟩ := List.getElem?_of_mem hm
    rw [List.getElem?_take] at hi
    split at hi
    · exact ltC_irrefl _ (sortC_get hs (show i < j by assumption) hi hc)
    · cases hi
theorem line_has {st : Tab} (h : Safe st) (a : Int) : (a ∈ st.2.map Prod.fst) ↔ waitsT st a ≠ [] := by
  rw [Ne, Go.Proofs.Ytambngbkegnghaa.leaseEnds.waits_nil h]
  rcases atF_cases st a with ⟨hat, hno⟩ | ⟨ix, y, hat, hix, hy, hyk⟩
  · rw [hat]
    refine ⟨fun hm => ?_, fun h => absurd (by decide) h⟩
    obtain ⟨y, hy, e⟩ := List.mem_map.1 hm
    exact absurd e (hno y hy)
  · rw [hat]
    exact ⟨fun _ => by omega, fun _ => List.mem_map.2 ⟨y, List.mem_of_getElem? hy, hyk⟩⟩
theorem own_meet {st : Tab} (h : Safe st) (a : Nat) : meetC (cellsT st a) (waitsT st a) = [] := by
  rw [List.eq_nil_iff_forall_not_mem]
  intro x hx
  obtain ⟨h1, h2⟩ := mem_meet.1 hx
  rcases atF_cases st a with ⟨hat, hno⟩ | ⟨ix, y, hat, hix, hy, hyk⟩
  · rw [waitsT_none hat] at h2; simp at h2
  · rw [waitsT_some hat hy] at h2
    refine h.own y (List.mem_of_getElem? hy) x h2 ?_
    rw [hyk, Int.toNat_natCast]
    rw [Go.Proofs.Ytambngbkegnghaa.leaseEnds.cellsT_nat] at h1
    exact h1
/-- the round's state: the table as it was, and the set of the cells seen -/
def Rel (w0 : World) (L : List Cell) (N : Nat) (wr : World) : Prop := SetM wr w0.heap.size N (· ∈ L) ∧ Below w0.heap.size w0 wr ∧ w0.heap.size < wr.heap.size
theorem Rel.tab {w0 wr : World} {B p : Nat} {st : Tab} {X : List (Value × List Cell)} {L : List Cell} {N : Nat} (h : Rel w0 L N wr) (hT : TabAt w0 B p st X) : TabAt wr B p st X := hT.below h.2.1
theorem Rel.below {w0 wr w' : World} {L : List Cell} {N : Nat} (h : Rel w0 L N wr) (hb : Below wr.heap.size wr w') : Rel w0 L N w' :=
  ⟨h.1.below hb h.2.2, h.2.1.trans (hb.mono h.2.1.size), by have := hb.size; have := h.2.2; omega⟩
set_option maxRecDepth 100000 in
set_option maxHeartbeats 2000000 in
theorem walk (a0 : Int) (v : Value) (w : World) {b0 : Nat} (w0 : wfI .i64 a0) (f1 : IntsArg w v b0) :
    Calls Try.prog 6 #[.int .i64 a0, v] w fun e w' => e = .returned (.bool true) ∧ Below w.heap.size w w' := by
  obtain ⟨l, hl, hi, _, hlb⟩ := f1
  obtain ⟨n, hn⟩ : ∃ n : Nat, (n : Int) = 1 + a0 % 4 := ⟨(1 + a0 % 4).toNat, by omega⟩
  have hn1 : 1 ≤ n := by omega
  have hn4 : n ≤ 4 := by omega
  have HL := Lib.hid (leases_any w)
  have HB := Lib.hid (fun w => below_any a0 4 w (by decide) (by decide))
  have Hl := Lib.hid hl
  have Hn := Lib.hid hn
  have hmm := @run_makeMap Try.prog
  obtain ⟨A, c, len, rfl, hlx⟩ := id hl
  clear hl hi w0 hlb hn hlx
  go_enter Try.func6, Try.ntmps6
  go_wp2_with fail
  refine HL.out.mono ?_
  rintro e w1 ⟨rfl, hb1⟩
  have Hl1 := Lib.hid ((Hl.out.below hb1).more hb1.size)
  have Hb1 := Lib.hid hb1
  clear hb1 HL
  go_wp2_with fail
  refine (HB.out _).mono ?_
  rintro e w' ⟨rfl, rfl⟩
  have hw1 : IntKind.i64.wrap (1 + a0 % 4) = (n : Int) := by rw [← Hn.out]; exact IntWalk.i64_in _ (by omega)
  have hw2 : 1 + a0 % 4 = (n : Int) := Hn.out.symm
  have HT := Lib.hid (table_any w1 n _ l hn1 hn4 Hl1.out)
  go_wp2_with fail
  refine HT.out.mono ?_
  rintro e w2 ⟨st, p, rfl, hT2, hG2, hb2⟩
  have HG := Lib.hid hG2
  have HC := Lib.hid (check_tab w2 _ p st [] hT2 hG2.1)
  have HT2 := Lib.hid hT2
  have Hb2 := Lib.hid (Hb1.out.trans (hb2.mono Hb1.out.size))
  have hz2 := hb2.size
  clear hw1 hw2 HT HB hT2 hG2 hb2
  go_wp2_with fail
  refine HC.out.mono ?_
  rintro e w3 ⟨rfl, hb3⟩
  have HT3 := Lib.hid (HT2.out.below hb3)
  have Hb3 := Lib.hid (Hb2.out.trans (hb3.mono Hb2.out.size))
  clear hb3 HC
  have HR0 := Lib.hid (show Rel w3 [] 0 (w3.alloc (.map #[] 0)) from ⟨SetM.congr (SetM.made w3) (Nat.le_refl _) (fun c => by simp), (Below.refl _ _).alloc (Nat.le_refl _) _, by simp⟩)
  go_wp2_with fail
  go_loopw [31] (fun i wr => ∃ k : Nat, k ≤ n ∧ i = .int .i64 (k : Int) ∧ ∃ N, N ≤ 400 * k ∧ Rel w3 (st.1.take k).flatten N wr) (fun i _ => n - (intOf i).toNat)
  case atStart => exact ⟨0, Nat.zero_le _, rfl, 0, by omega, HR0.out⟩
  case round =>
    obtain ⟨k, hk, rfl, N, hN, hR⟩ := hrel
    have HR := Lib.hid hR
    clear hR
    by_cases hkn : k < n
    · obtain ⟨r, hr⟩ : ∃ r, st.1[k]? = some r := ⟨_, List.getElem?_eq_getElem (by rw [HG.out.2.2]; exact hkn)⟩
      have HC := Lib.hid (cells_of wr _ p st [] k (HR.out.tab HT3.out) HG.out.1.fit)
      rw [cellsT_in hr] at HC
      have Hr := Lib.hid hr
      have Hr4 := Lib.hid (cellsF_len (HG.out.1.fit.has r (List.mem_of_getElem? hr)))
      have Hon := Lib.hid ((cellsF_sorted r).1 (HG.out.1.fit.has r (List.mem_of_getElem? hr))).2.1
      clear hr
      go_wp2_with fail
      refine HC.out.mono ?_
      rintro e w4 ⟨A4, n4, c4, rfl, hl4, hown4, hb4⟩
      have HR4 := Lib.hid (HR.out.below hb4)
      have Hown4 := Lib.hid (own_mono hown4 (show w3.heap.size + 1 ≤ wr.heap.size from HR.out.2.2))
      have Hl4 := Lib.hid hl4
      have hn4' : n4 ≤ 400 := by have := Hr4.out; omega
      clear hl4 hown4 hb4 HC
      go_wp2_with fail
      obtain ⟨w9, rfl⟩ : ∃ w9, w9 = wr := ⟨_, rfl⟩
      go_loopw [38] (fun i wr => ∃ j : Nat, j ≤ n4 ∧ i = .int .i64 (j : Int) ∧ Rel w3 ((st.1.take k).flatten ++ r.take j) (N + j) wr ∧ wr.ownsRow (w3.heap.size + 1) 39 2 (.slice A4 n4 c4) n4 (r.flatMap encC)) (fun i _ => n4 - (intOf i).toNat)
      case atStart => exact ⟨0, Nat.zero_le _, rfl, by simpa using HR4.out, Hown4.out⟩
      case round =>
        obtain ⟨j, hj, rfl, hR, hown⟩ := hrel
        have HR5 := Lib.hid hR
        have Hown5 := Lib.hid hown
        by_cases hjn : j < n4
        · obtain ⟨A5, c5, he5, _, _, hrd⟩ := own_rd hown
          injection he5 with e1 _ e2
          subst e1 e2
          obtain ⟨b, o, x, rfl, hbB, hxx, hcs⟩ := hrd.elem encC_len Hl4.out hjn
          obtain ⟨x, y⟩ := x
          have e0 : wr.cell? ⟨b, o + j * 2, none⟩ = some (.int .i64 x) := hcs 0 _ rfl
          have e1 : wr.cell? ⟨b, o + j * 2 + 1, none⟩ = some (.int .i64 y) := hcs 1 _ rfl
          have Hw := Lib.hid (onC_wf (Hon.out (x, y) (List.mem_of_getElem? hxx)))
          have Hf := Lib.hid (fresh_cell HG.out.1 Hr.out hxx)
          have Hx := Lib.hid hxx
          have HRA := Lib.hid (fun X => hR.below ((Below.refl wr.heap.size wr).alloc (Nat.le_refl _) X))
          have HownA := Lib.hid (fun X => hown.alloc X)
          have hlt2 : w3.heap.size < wr.heap.size := hR.2.2
          have HN := Lib.hid (show N + j < maxLen by unfold maxLen; omega)
          clear hR hown hrd hcs hxx hbB
          go_wp2_with (first | (at_lookup; refine wpList_look_set rfl _ _ _ rfl Try.underlying42 w3.heap.size (N + j) (· ∈ (st.1.take k).flatten ++ r.take j) (x, y) Hw.out rfl rfl (HRA.out _).1 ?_; rw [decide_eq_false Hf.out]) | (at_mapUpdate; refine wpList_put_set rfl _ _ _ _ rfl Try.underlying42 w3.heap.size (N + j) HN.out (· ∈ (st.1.take k).flatten ++ r.take j) (x, y) Hw.out rfl rfl rfl (HRA.out _).1 ?_; intro w6 hs6 hg6))
          have hs7 : SetM w6 w3.heap.size (N + (j + 1)) (· ∈ (st.1.take k).flatten ++ r.take (j + 1)) := SetM.congr hs6 (by omega) (fun c => by
            rw [List.take_add_one, Hx.out, ← List.append_assoc, List.mem_append (s := (st.1.take k).flatten ++ r.take j)]
            simp)
          have hlt6 : w3.heap.size < w6.heap.size := Nat.lt_of_lt_of_le (HRA.out _).2.2 hg6.size
          have HR7 := Lib.hid (show Rel w3 ((st.1.take k).flatten ++ r.take (j + 1)) (N + (j + 1)) w6 from ⟨hs7, (HRA.out _).2.1.grown hg6 (Nat.le_of_lt (HRA.out _).2.2) (fun g hg => by injection hg with hg; omega), hlt6⟩)
          have Ho7 := Lib.hid ((HownA.out _).kept hg6 (.inr (fun e => by
            have := (Hown5.out.lt b rfl).1
            simp [Value.ownBlock] at e
            omega)))
          clear hs6 hg6 hs7
          go_wp2_with fail
          go_roundw
          case rel => exact ⟨j + 1, by omega, by go_num, HR7.out, Ho7.out⟩
          case measure => simp [intOf]; omega
        · obtain rfl : j = n4 := by omega
          have hfl : (st.1.take (k + 1)).flatten = (st.1.take k).flatten ++ r := by rw [List.take_add_one, Hr.out, List.flatten_append]; simp
          have htk : r.take j = r := List.take_of_length_le (by rw [Hl4.out]; exact Nat.le_refl _)
          have HR6 := Lib.hid (show Rel w3 (st.1.take (k + 1)).flatten (N + j) wr by rw [hfl]; rw [htk] at hR; exact hR)
          have HN6 := Lib.hid (show N + j ≤ 400 * (k + 1) by omega)
          have HC := Lib.hid (cells_of wr _ p st [] k (HR6.out.tab HT3.out) HG.out.1.fit)
          clear hR hown hfl htk
          go_wp2_with fail
          refine HC.out.mono ?_
          rintro e w5 ⟨A5, n5, c5, rfl, hl5, hown5, hb5⟩
          have HR7 := Lib.hid (HR6.out.below hb5)
          have Hv5 := Lib.hid (SlC.own hown5)
          have HW := Lib.hid (waits_of w5 _ p st [] k (HR7.out.tab HT3.out) HG.out.1.fit)
          have Hl5 := Lib.hid hl5
          clear hl5 hown5 hb5 HC
          go_wp2_with fail
          refine HW.out.mono ?_
          rintro e w6 ⟨A6, n6, c6, rfl, hl6, hown6, hb6⟩
          have HR8 := Lib.hid (HR7.out.below hb6)
          have HM := Lib.hid (meet_any w6 (.slice A5 n5 c5) (.slice A6 n6 c6) _ _ ((Hv5.out.below hb6).more hb6.size) (SlC.own hown6) (by have := HG.out.few k; omega) (by
            have : (waitsT st k).length ≤ 400 := by
              rcases atF_cases st k with ⟨hat, hno⟩ | ⟨ix, y, hat, hix, hy, hyk⟩
              · rw [waitsT_none hat]; simp
              · rw [waitsT_some hat hy]; exact HG.out.1.fit.few.1.2.2.2 y (List.mem_of_getElem? hy)
            omega))
          rw [own_meet HG.out.1 k] at HM
          clear hl6 hown6 hb6 HW
          go_wp2_with fail
          refine HM.out.mono ?_
          rintro e w7 ⟨A7, n7, c7, rfl, hl7, hown7, hb7⟩
          obtain rfl : n7 = 0 := hl7.symm
          have HR9 := Lib.hid (HR8.out.below hb7)
          have HW := Lib.hid (waits_of w7 _ p st [] k (HR9.out.tab HT3.out) HG.out.1.fit)
          clear hl7 hown7 hb7 HM
          go_wp2_with fail
          refine HW.out.mono ?_
          rintro e w8 ⟨A8, n8, c8, rfl, hl8, hown8, hb8⟩
          have HR10 := Lib.hid (HR9.out.below hb8)
          have HLn := Lib.hid (line_of w8 _ p st [] (HR10.out.tab HT3.out) HG.out.1.fit)
          obtain ⟨ln, hln⟩ : ∃ ln, ln = st.2.map Prod.fst := ⟨_, rfl⟩
          have Hlnl := Lib.hid (show ln.length ≤ 4 by rw [hln, List.length_map]; exact HG.out.1.fit.few.1.2.1)
          have Hl8 := Lib.hid hl8
          clear hl8 hown8 hb8 HW
          have HE := Lib.hid (show decide ((0 : Int) < (n8 : Int)) = decide ((k : Int) ∈ ln) from by
            rw [hln]
            have h1 := line_has HG.out.1 (k : Int)
            by_cases h0 : n8 = 0
            · rw [decide_eq_false (by omega), decide_eq_false (fun h => h1.1 h (List.eq_nil_of_length_eq_zero (by rw [Hl8.out, h0])))]
            · rw [decide_eq_true (by omega), decide_eq_true (h1.2 (fun e => h0 (by rw [← Hl8.out, e]; rfl)))])
          rw [← hln] at HLn
          clear hln
          go_wp2_with fail
          refine HLn.out.mono ?_
          rintro e w9 ⟨v9, rfl, hown9, hb9⟩
          have HR11 := Lib.hid (HR10.out.below hb9)
          have HCn := Lib.hid (contains_ints w9 v9 w9.heap.size _ (k : Int) (own_sli hown9) (by have := Hlnl.out; omega))
          obtain ⟨A9, c9, rfl, _⟩ := own_rd hown9
          rw [← HE.out] at HCn
          clear hown9 hb9 HLn
          go_wp2_with fail
          refine HCn.out.mono ?_
          rintro e w10 ⟨rfl, rfl⟩
          clear HCn
          go_wp2_with fail
          go_roundw
          case rel => exact ⟨k + 1, by omega, by go_num, _, HN6.out, HR11.out⟩
          case measure => simp [intOf]; omega
    · obtain rfl : k = n := by omega
      have HP := Lib.hid (Hb3.out.trans (HR.out.2.1.mono Hb3.out.size))
      go_wp2_with fail
      go_ret
      exact ⟨rfl, HP.out⟩
end Go.Proofs.Ytambngbkegnghaa.leaseApart
