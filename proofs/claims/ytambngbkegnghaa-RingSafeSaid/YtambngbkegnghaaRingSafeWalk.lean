/- RingSafe's walk: it returns true. Conditions: the reach. -/
import Derived.Test.YtambngbkegnghaaLeast
import Derived.Test.YtambngbkegnghaaRowsCOpen
import Derived.Test.YtambngbkegnghaaTabNew
import Derived.Deep.CutBlock
import Derived.Deep.DeepCutAuto
namespace Go.Proofs.Ytambngbkegnghaa.ringSafe
open Go.RowKit Go.Gy Go.Maps
set_option linter.unusedVariables false
theorem safe_first : safeF [[(0, 0)], []] [[], [(0, 0)]] = (0, [0, 1]) := by decide
abbrev W4 (w : World) : World := (((w.alloc (.cells #[.int .i64 0, .int .i64 0] 39)).alloc (.cells #[.slice (some ⟨w.heap.size, 0, none⟩) 1 1, .slice none 0 0] 24)).alloc (.cells #[.int .i64 0, .int .i64 0] 39)).alloc (.cells #[.slice none 0 0, .slice (some ⟨w.heap.size + 2, 0, none⟩) 1 1] 24)
theorem rows_first (w : World) : RowsC (W4 w) (w.heap.size + 4) (.slice (some ⟨w.heap.size + 1, 0, none⟩) 2 2) [[(0, 0)], []] ∧ RowsC (W4 w) (w.heap.size + 4) (.slice (some ⟨w.heap.size + 3, 0, none⟩) 2 2) [[], [(0, 0)]] := by
  have b2 : ∀ (w : World) X, Below w.heap.size w (w.alloc X) := fun w X => (Below.refl _ _).alloc (Nat.le_refl _) _
  have c1 := (((lit_slc w 0 0).below (b2 _ (.cells #[.slice (some ⟨w.heap.size, 0, none⟩) 1 1, .slice none 0 0] 24))).more (B' := w.heap.size + 2) (by simp))
  rw [show w.heap.size + 2 = ((w.alloc (.cells #[.int .i64 0, .int .i64 0] 39)).alloc (.cells #[.slice (some ⟨w.heap.size, 0, none⟩) 1 1, .slice none 0 0] 24)).heap.size by simp] at c1
  have c2 := (c1.below (b2 _ (.cells #[.int .i64 0, .int .i64 0] 39))).more (B' := w.heap.size + 3) (by simp)
  rw [show w.heap.size + 3 = (((w.alloc (.cells #[.int .i64 0, .int .i64 0] 39)).alloc (.cells #[.slice (some ⟨w.heap.size, 0, none⟩) 1 1, .slice none 0 0] 24)).alloc (.cells #[.int .i64 0, .int .i64 0] 39)).heap.size by simp] at c2
  have c3 := (c2.below (b2 _ (.cells #[.slice none 0 0, .slice (some ⟨w.heap.size + 2, 0, none⟩) 1 1] 24))).more (B' := w.heap.size + 4) (by simp)
  have d1 := lit_slc ((w.alloc (.cells #[.int .i64 0, .int .i64 0] 39)).alloc (.cells #[.slice (some ⟨w.heap.size, 0, none⟩) 1 1, .slice none 0 0] 24)) 0 0
  have d2 := (d1.below (b2 _ (.cells #[.slice none 0 0, .slice (some ⟨w.heap.size + 2, 0, none⟩) 1 1] 24))).more (B' := w.heap.size + 4) (by simp)
  have r1 := Rd.lit (w.alloc (.cells #[.int .i64 0, .int .i64 0] 39)) 24 [.slice (some ⟨w.heap.size, 0, none⟩) 1 1, .slice none 0 0] 1 2 rfl
  rw [World.size_alloc] at r1
  have r2 := (r1.below ((b2 _ (.cells #[.int .i64 0, .int .i64 0] 39)).mono (by simp))).below ((b2 _ (.cells #[.slice none 0 0, .slice (some ⟨w.heap.size + 2, 0, none⟩) 1 1] 24)).mono (by simp))
  have r3 := Rd.lit (((w.alloc (.cells #[.int .i64 0, .int .i64 0] 39)).alloc (.cells #[.slice (some ⟨w.heap.size, 0, none⟩) 1 1, .slice none 0 0] 24)).alloc (.cells #[.int .i64 0, .int .i64 0] 39)) 24 [.slice none 0 0, .slice (some ⟨w.heap.size + 2, 0, none⟩) 1 1] 1 2 rfl
  simp only [World.size_alloc] at r3 d2
  have nilC : SlC (W4 w) (w.heap.size + 4) (.slice none 0 0) [] := (SlC.own (World.ownsRow_nil (W4 w) 0 _ _)).more (by simp [W4])
  refine ⟨⟨_, 2, 2, _, rfl, rfl, Nat.le_refl _, (fun h => by cases h), r2.more (by omega), rfl, fun i v r e1 e2 => ?_⟩, ⟨_, 2, 2, _, rfl, rfl, Nat.le_refl _, (fun h => by cases h), r3, rfl, fun i v r e1 e2 => ?_⟩⟩
  · match i with
    | 0 => injection e1 with e1; injection e2 with e2; subst e1 e2; exact c3
    | 1 => injection e1 with e1; injection e2 with e2; subst e1 e2; exact nilC
    | i + 2 => simp at e1
  · match i with
    | 0 => injection e1 with e1; injection e2 with e2; subst e1 e2; exact nilC
    | 1 => injection e1 with e1; injection e2 with e2; subst e1 e2; exact d2
    | i + 2 => simp at e1
/-- the fault behind the first i rows -/
def fq (has wants : List (List Cell)) (i : Nat) : Nat := if 4 < has.length ∨ wants.length ≠ has.length then 2 else chkF has wants i
def fq2 (has wants : List (List Cell)) (i : Nat) : Nat := if fq has wants has.length ≠ 0 then fq has wants has.length else if clashF has i = true then 10 else 0
theorem fq_mono {has wants : List (List Cell)} {i : Nat} (hi : i ≤ has.length) (h : fq has wants i ≠ 0) : fq has wants has.length = fq has wants i := by
  unfold fq at h ⊢
  split
  · rfl
  · rename_i hc
    rw [if_neg hc] at h
    exact chkF_mono hi h
theorem fq_zero {has wants : List (List Cell)} {i : Nat} (h : fq has wants i = 0) : ¬ (4 < has.length ∨ wants.length ≠ has.length) ∧ chkF has wants i = 0 := by
  unfold fq at h
  split at h
  · cases h
  · rename_i hc; exact ⟨hc, h⟩
theorem clash_mono {has : List (List Cell)} {i n : Nat} (hi : i ≤ n) (h : clashF has i = true) : clashF has n = true := by
  unfold clashF at h ⊢
  rw [List.any_eq_true] at h ⊢
  obtain ⟨j, hj, h⟩ := h
  exact ⟨j, by simp at hj ⊢; omega, h⟩
def rowClash (has : List (List Cell)) (r : List Cell) (j : Nat) : Bool := (List.range j).any fun j => meets r (has.getD j [])
theorem rowClash_succ (has : List (List Cell)) (r : List Cell) (j : Nat) : rowClash has r (j + 1) = (rowClash has r j || meets r (has.getD j [])) := by
  unfold rowClash
  rw [List.range_succ, List.any_append]; simp
theorem clash_succ (has : List (List Cell)) (k : Nat) : clashF has (k + 1) = (clashF has k || rowClash has (has.getD k []) k) := by
  unfold clashF rowClash
  rw [List.range_succ, List.any_append]; simp
def tenIf (b : Bool) : Nat := if b = true then 10 else 0
theorem fq2_of {has wants : List (List Cell)} (h : fq has wants has.length = 0) (i : Nat) : fq2 has wants i = tenIf (clashF has i) := by
  unfold fq2 tenIf
  rw [if_neg (fun hc => hc h)]
theorem fq2_not {has wants : List (List Cell)} (h : fq has wants has.length ≠ 0) (i : Nat) : fq2 has wants i = fq has wants has.length := by
  unfold fq2
  rw [if_pos h]
theorem safe_fq {has wants : List (List Cell)} : safeF has wants = if fq2 has wants has.length ≠ 0 then (fq2 has wants has.length, []) else match greedyF has wants has.length [] with
    | none => (11, [])
    | some l => (0, l) := by
  unfold safeF fq2 fq
  by_cases h1 : 4 < has.length ∨ wants.length ≠ has.length
  · simp only [if_pos h1]; rfl
  · simp only [if_neg h1]
    by_cases h2 : chkF has wants has.length = 0
    · rw [h2]
      by_cases h3 : clashF has has.length = true
      · rw [h3]; rfl
      · rw [Bool.eq_false_iff.2 h3]; rfl
    · rw [if_pos h2]; simp only [if_pos h2]
set_option maxRecDepth 100000 in
set_option maxHeartbeats 4000000 in
theorem least_nil (w : World) (A A' : Option Addr) (c c' : Nat) : Calls Try.prog 34 #[.slice A 0 c, .slice A' 0 c', .slice none 0 0] w fun e w' => e = .returned (.slice none 0 0) ∧ w' = w := by
  go_enter Try.func34, Try.ntmps34
  go_wp2_with fail
  go_ret
  exact ⟨rfl, rfl⟩
set_option maxRecDepth 100000 in
set_option maxHeartbeats 8000000 in
theorem walk (v v2 : Value) (w : World) {b0 b1 : Nat} (f0 : CellRowsArg w v b0) (f1 : CellRowsArg w v2 b1) :
    Calls Try.prog 9 #[v, v2] w fun e w' => e = .returned (.bool true) ∧ Below w.heap.size w w' := by
  obtain ⟨has, hv, _, hlb⟩ := f0
  obtain ⟨wants, hv2, _, hlb2⟩ := f1
  have hlb' : has.length ≤ 140737488355328 := by unfold reachBytes at hlb; omega
  have hlb2' : wants.length ≤ 140737488355328 := by unfold reachBytes at hlb2; omega
  obtain ⟨A, n, c, vs, rfl, hln, _⟩ := id hv
  obtain ⟨A', n', c', vs', rfl, hln', _⟩ := id hv2
  have hrf := rows_first w
  have hbA : Below w.heap.size w (W4 w) := ((((Below.refl _ _).alloc (Nat.le_refl _) _).alloc (by simp) _).alloc (by simp; omega) _).alloc (by simp; omega) _
  have HS := Lib.hid (safe_any _ _ _ _ _ (hrf.1.more (by simp)) (hrf.2.more (by simp)) (by simp) (by simp))
  have HbA := Lib.hid hbA
  have HV := Lib.hid hv
  have HV2 := Lib.hid hv2
  have Hln := Lib.hid hln
  have Hln' := Lib.hid hln'
  rw [hln] at hlb'
  rw [hln'] at hlb2'
  clear hv hv2 hlb hlb2 hrf hbA hln hln'
  go_enter Try.func9, Try.ntmps9
  go_wp2_with fail
  refine HS.out.mono ?_
  intro e w1 hp
  obtain ⟨v1, rfl, hown1, hb1⟩ := SafePost.is (has := [[(0, 0)], []]) (wants := [[], [(0, 0)]]) hp safe_first
  have Hb1 := Lib.hid (HbA.out.trans (hb1.mono HbA.out.size))
  have Hs1 := Lib.hid (own_sli (l := [0, 1]) hown1)
  obtain ⟨A1, c1, rfl, _⟩ := own_rd hown1
  have hal : ∀ X, Below w1.heap.size w1 (w1.alloc X) := fun X => (Below.refl _ _).alloc (Nat.le_refl _) _
  have HE := Lib.hid (equal_ints (w1.alloc (.cells #[.int .i64 0, .int .i64 1] 3)) (.slice A1 2 c1) (.slice (some ⟨w1.heap.size, 0, none⟩) 2 2) (w1.heap.size + 1) [0, 1] [0, 1] ((Hs1.out.below (hal _)).more (by omega)) ⟨_, 2, 2, rfl, rfl, Nat.le_refl _, (fun h => by cases h), Rd.lit w1 3 [.int .i64 0, .int .i64 1] 1 2 rfl⟩ (by simp) (by simp))
  have Hb1A := Lib.hid (Hb1.out.trans ((hal (.cells #[.int .i64 0, .int .i64 1] 3)).mono Hb1.out.size))
  clear hp hown1 hb1 HS hal
  go_wp2_with fail
  refine HE.out.mono ?_
  rintro e w9 ⟨rfl, qq, rfl⟩
  have Hb2 := Lib.hid (below_drewN Hb1A.out qq)
  obtain ⟨w3, hw3⟩ : ∃ w3, w3 = (w1.alloc (.cells #[.int .i64 0, .int .i64 1] 3)).drewN qq := ⟨_, rfl⟩
  rw [← hw3] at Hb2 ⊢
  clear hw3 HE
  by_cases h4 : 4 < n
  · have h4' : (4 : Int) < (n : Int) := by omega
    have HP2 := Lib.hid (show safeF has wants = (2, []) from by unfold safeF; rw [if_pos (.inl (by rw [Hln.out]; exact h4))])
    have HSf := Lib.hid (fun (wx : World) (hx : Below w.heap.size w wx) => safe_any wx _ _ _ _ ((HV.out.below hx).more hx.size) ((HV2.out.below hx).more hx.size) (by rw [Hln.out]; exact hlb') (by rw [Hln'.out]; exact hlb2'))
    go_upto_block 0 with (fail)
    go_cut [7] (fun s7 wx => s7 = .int .i64 2 ∧ Below w.heap.size w wx)
    case first =>
      go_wp2_with fail
      go_loopw [7, 8] (fun q i wr => q = .int .i64 2 ∧ i = .int .i64 0 ∧ Below w.heap.size w wr) (fun _ _ _ => 0)
      case atStart => exact ⟨rfl, rfl, Hb2.out⟩
      case round =>
        obtain ⟨rfl, rfl, hbr⟩ := hrel
        go_wp2_with fail
        go_meet
        exact ⟨rfl, hbr⟩
    case rest =>
      obtain ⟨rfl, hbx⟩ := hcut
      go_upto_block 2 with (fail)
      go_cut [7] (fun s7 wx => s7 = .int .i64 2 ∧ Below w.heap.size w wx)
      case first =>
        go_wp2_with fail
        go_loopw [7, 9] (fun q i wr => q = .int .i64 2 ∧ i = .int .i64 0 ∧ Below w.heap.size w wr) (fun _ _ _ => 0)
        case atStart => exact ⟨rfl, rfl, hbx⟩
        case round =>
          obtain ⟨rfl, rfl, hbr⟩ := hrel
          go_wp2_with fail
          go_meet
          exact ⟨rfl, hbr⟩
      case rest =>
        rename_i wx2
        obtain ⟨rfl, hbx2⟩ := hcut
        have HSx := Lib.hid (HSf.out _ hbx2)
        have Hbx2 := Lib.hid hbx2
        clear hbx hbx2
        go_wp2_with fail
        refine HSx.out.mono ?_
        intro e w8 hp
        obtain ⟨v8, rfl, hown8, hb8⟩ := SafePost.is hp HP2.out
        have HP := Lib.hid (Hbx2.out.trans (hb8.mono Hbx2.out.size))
        obtain ⟨A8, c8, rfl, _⟩ := own_rd hown8
        clear hp hown8 hb8 HSx
        go_wp2_with fail
        go_ret
        exact ⟨rfl, HP.out⟩
  have h4' : ¬ (4 : Int) < (n : Int) := by omega
  by_cases hnn : n' = n
  rotate_left
  · have hnb : ((n' : Int) != (n : Int)) = true := by simpa using (show ¬ (n' : Int) = (n : Int) by omega)
    have HP2 := Lib.hid (show safeF has wants = (2, []) from by unfold safeF; rw [if_pos (.inr (by rw [Hln.out, Hln'.out]; exact hnn))])
    have HSf := Lib.hid (fun (wx : World) (hx : Below w.heap.size w wx) => safe_any wx _ _ _ _ ((HV.out.below hx).more hx.size) ((HV2.out.below hx).more hx.size) (by rw [Hln.out]; exact hlb') (by rw [Hln'.out]; exact hlb2'))
    go_upto_block 0 with (fail)
    go_cut [7] (fun s7 wx => s7 = .int .i64 2 ∧ Below w.heap.size w wx)
    case first =>
      go_wp2_with fail
      go_loopw [7, 8] (fun q i wr => q = .int .i64 2 ∧ i = .int .i64 0 ∧ Below w.heap.size w wr) (fun _ _ _ => 0)
      case atStart => exact ⟨rfl, rfl, Hb2.out⟩
      case round =>
        obtain ⟨rfl, rfl, hbr⟩ := hrel
        by_cases hz : (0 : Int) < (n : Int)
        · go_wp2_with fail
          go_meet
          exact ⟨rfl, hbr⟩
        · go_wp2_with fail
          go_meet
          exact ⟨rfl, hbr⟩
    case rest =>
      obtain ⟨rfl, hbx⟩ := hcut
      go_upto_block 2 with (fail)
      go_cut [7] (fun s7 wx => s7 = .int .i64 2 ∧ Below w.heap.size w wx)
      case first =>
        go_wp2_with fail
        go_loopw [7, 9] (fun q i wr => q = .int .i64 2 ∧ i = .int .i64 0 ∧ Below w.heap.size w wr) (fun _ _ _ => 0)
        case atStart => exact ⟨rfl, rfl, hbx⟩
        case round =>
          obtain ⟨rfl, rfl, hbr⟩ := hrel
          by_cases hz : (0 : Int) < (n : Int)
          · go_wp2_with fail
            go_meet
            exact ⟨rfl, hbr⟩
          · go_wp2_with fail
            go_meet
            exact ⟨rfl, hbr⟩
      case rest =>
        rename_i wx2
        obtain ⟨rfl, hbx2⟩ := hcut
        have HSx := Lib.hid (HSf.out _ hbx2)
        have Hbx2 := Lib.hid hbx2
        clear hbx hbx2
        go_wp2_with fail
        refine HSx.out.mono ?_
        intro e w8 hp
        obtain ⟨v8, rfl, hown8, hb8⟩ := SafePost.is hp HP2.out
        have HP := Lib.hid (Hbx2.out.trans (hb8.mono Hbx2.out.size))
        obtain ⟨A8, c8, rfl, _⟩ := own_rd hown8
        clear hp hown8 hb8 HSx
        go_wp2_with fail
        go_ret
        exact ⟨rfl, HP.out⟩
  subst hnn
  have hn4 : n' ≤ 4 := by omega
  have HF0 := Lib.hid (show ∀ i, fq has wants i = chkF has wants i from fun i => by unfold fq; rw [if_neg (by rw [Hln.out, Hln'.out]; omega)])
  go_upto_block 0 with (fail)
  go_cut [7] (fun s7 wx => s7 = .int .i64 ((chkF has wants n' : Nat) : Int) ∧ Below w.heap.size w wx)
  case first =>
    go_wp2_with fail
    go_loopw [7, 8] (fun q i wr => ∃ k : Nat, k ≤ n' ∧ i = .int .i64 (k : Int) ∧ q = .int .i64 ((chkF has wants k : Nat) : Int) ∧ Below w.heap.size w wr) (fun _ i _ => n' - (intOf i).toNat)
    case atStart => exact ⟨0, Nat.zero_le _, rfl, rfl, Hb2.out⟩
    case round =>
      obtain ⟨k, hk, rfl, rfl, hbr⟩ := hrel
      have Hbr := Lib.hid hbr
      obtain ⟨x, hx⟩ : ∃ x, x = chkF has wants k := ⟨_, rfl⟩
      rw [← hx]
      have Hx := Lib.hid hx
      clear hbr hx
      by_cases hkn : k < n'
      · by_cases hx0 : x = 0
        · subst hx0
          obtain ⟨bE, oE, u1, r1, rfl, hbE, q0, hr1, hs1⟩ := (HV.out.below Hbr.out).get hkn
          obtain ⟨bF, oF, u2, r2, rfl, hbF, q1, hr2, hs2⟩ := (HV2.out.below Hbr.out).get hkn
          obtain ⟨Ax, nx, cx, rfl, hlx, _, _, hrx⟩ := id hs1
          obtain ⟨Ay, ny, cy, rfl, hly, _, _, hry⟩ := id hs2
          have e1 : has.getD k [] = r1 := by rw [List.getD_eq_getElem?_getD, hr1]; rfl
          have e2 : wants.getD k [] = r2 := by rw [List.getD_eq_getElem?_getD, hr2]; rfl
          have HN := Lib.hid (show chkF has wants (k + 1) = if cellsF r1 ≠ 0 then cellsF r1 else cellsF r2 from by rw [chkF, ← Hx.out, e1, e2]; rfl)
          have HC1 := Lib.hid (cellsfault_any wr Ax nx cx r1 hlx (hrx.more Hbr.out.size))
          have Hkn := Lib.hid hkn
          have HSk := Lib.hid (show ∀ w', Below wr.heap.size wr w' → w'.cell? ⟨bF, oF + k, none⟩ = some (.slice Ay ny cy) from fun w' hb => (hb.cell (p := ⟨bF, oF + k, none⟩) (Nat.lt_of_lt_of_le hbF Hbr.out.size)).trans q1)
          have HC2 := Lib.hid (fun (w' : World) (hb : Below wr.heap.size wr w') => cellsfault_any w' Ay ny cy r2 hly (((hry.more Hbr.out.size).below hb).more hb.size))
          clear hbE hr1 hs1 hlx hrx hbF hr2 hs2 hly hry e1 e2 q1
          go_wp2_with fail
          refine HC1.out.mono ?_
          rintro e w5 ⟨rfl, hb5⟩
          obtain ⟨y, hy⟩ : ∃ y, y = cellsF r1 := ⟨_, rfl⟩
          rw [← hy]
          rw [← hy] at HN
          have Hb5 := Lib.hid (Hbr.out.trans (hb5.mono Hbr.out.size))
          have q1 := HSk.out _ hb5
          have HC3 := Lib.hid (HC2.out _ hb5)
          clear hy
          by_cases hy0 : y = 0
          · subst hy0
            have HR := Lib.hid (show chkF has wants (k + 1) = cellsF r2 from HN.out)
            clear hb5
            go_wp2_with fail
            refine HC3.out.mono ?_
            rintro e w6 ⟨rfl, hb6⟩
            have Hb6 := Lib.hid (Hb5.out.trans (hb6.mono Hb5.out.size))
            clear hb6
            go_wp2_with fail
            go_roundw
            case rel => exact ⟨k + 1, Hkn.out, by go_num, by rw [HR.out], Hb6.out⟩
            case measure => have := Hkn.out; simp [intOf]; omega
          · have HR := Lib.hid (show chkF has wants (k + 1) = y from by rw [HN.out, if_pos hy0])
            have hyb : ((y : Int) == 0) = false := by simpa using hy0
            clear hb5
            go_wp2_with fail
            go_roundw
            case rel => exact ⟨k + 1, Hkn.out, by go_num, by rw [HR.out], Hb5.out⟩
            case measure => have := Hkn.out; simp [intOf]; omega
        · have hxb : ((x : Int) == 0) = false := by simpa using hx0
          have HR := Lib.hid (show chkF has wants n' = x from by rw [chkF_mono (k := k) hk (by rw [← Hx.out]; exact hx0)]; exact Hx.out.symm)
          go_wp2_with fail
          go_meet
          exact ⟨by rw [HR.out], Hbr.out⟩
      · obtain rfl : k = n' := by omega
        go_wp2_with fail
        go_meet
        exact ⟨by rw [Hx.out], Hbr.out⟩
  case rest =>
    obtain ⟨rfl, hbx⟩ := hcut
    have Hbx := Lib.hid hbx
    have Hfx := Lib.hid (show fq has wants n' = chkF has wants n' from HF0.out n')
    clear hbx
    go_upto_block 2 with (fail)
    go_cut [7] (fun s7 wx => s7 = .int .i64 ((fq2 has wants n' : Nat) : Int) ∧ Below w.heap.size w wx)
    case first =>
      by_cases hx0 : chkF has wants n' = 0
      rotate_left
      · have HR := Lib.hid (show fq2 has wants n' = chkF has wants n' from by rw [fq2_not (by rw [Hln.out, Hfx.out]; exact hx0), Hln.out, Hfx.out])
        obtain ⟨x, hx⟩ : ∃ x, x = chkF has wants n' := ⟨_, rfl⟩
        rw [← hx] at hx0 HR ⊢
        have hxb : ((x : Int) == 0) = false := by simpa using hx0
        clear hx
        by_cases hz : (0 : Int) < (n' : Int)
        · go_wp2_with fail
          go_loopw [7, 9] (fun q i wr => q = .int .i64 (x : Int) ∧ i = .int .i64 0 ∧ Below w.heap.size w wr) (fun _ _ _ => 0)
          case atStart => exact ⟨rfl, rfl, Hbx.out⟩
          case round =>
            obtain ⟨rfl, rfl, hbr⟩ := hrel
            go_wp2_with fail
            go_meet
            exact ⟨by rw [HR.out], hbr⟩
        · go_wp2_with fail
          go_loopw [7, 9] (fun q i wr => q = .int .i64 (x : Int) ∧ i = .int .i64 0 ∧ Below w.heap.size w wr) (fun _ _ _ => 0)
          case atStart => exact ⟨rfl, rfl, Hbx.out⟩
          case round =>
            obtain ⟨rfl, rfl, hbr⟩ := hrel
            go_wp2_with fail
            go_meet
            exact ⟨by rw [HR.out], hbr⟩
      · have Hfz := Lib.hid (show fq has wants has.length = 0 from by rw [Hln.out, Hfx.out]; exact hx0)
        have Hok := Lib.hid (show ∀ r ∈ has, cellsF r = 0 from fun r hr => by
          obtain ⟨i, hi, rfl⟩ := List.getElem_of_mem hr
          have := (chkF_get hx0 i (by have := Hln.out; omega)).1
          rw [List.getD_eq_getElem?_getD, List.getElem?_eq_getElem hi] at this
          exact this)
        rw [hx0]
        clear hx0
        go_wp2_with fail
        go_loopw [7, 9] (fun q i wr => ∃ k : Nat, k ≤ n' ∧ i = .int .i64 (k : Int) ∧ q = .int .i64 ((fq2 has wants k : Nat) : Int) ∧ Below w.heap.size w wr) (fun _ i _ => n' - (intOf i).toNat)
        case atStart => exact ⟨0, Nat.zero_le _, rfl, by rw [fq2_of Hfz.out]; rfl, Hbx.out⟩
        case round =>
          obtain ⟨k, hk, rfl, rfl, hbz⟩ := hrel
          have Hbz := Lib.hid hbz
          by_cases hkn : k < n'
          · by_cases hcl : clashF has k = true
            · have e := fq2_of Hfz.out k
              rw [hcl] at e
              have HR := Lib.hid (show fq2 has wants n' = 10 from by rw [fq2_of Hfz.out, clash_mono hk hcl]; rfl)
              rw [show fq2 has wants k = 10 from e]
              clear e hcl
              go_wp2_with fail
              go_meet
              exact ⟨by rw [HR.out], Hbz.out⟩
            · have e := fq2_of Hfz.out k
              have hcl' : clashF has k = false := by simpa using hcl
              rw [hcl'] at e
              have Hnc := Lib.hid hcl'
              rw [show fq2 has wants k = 0 from e]
              obtain ⟨bE, oE, x, r, rfl, hbE, q0, hr, hx⟩ := (HV.out.below (Below.refl _ _)).get hkn
              obtain ⟨Ax, nx, cx, rfl, _⟩ := id hx
              have HrD := Lib.hid (show has.getD k [] = r by rw [List.getD_eq_getElem?_getD, hr]; rfl)
              have Hcx := Lib.hid (Hok.out r (List.mem_of_getElem? hr))
              have Hx := Lib.hid hx
              have HbE := Lib.hid hbE
              have Hq0 := Lib.hid q0
              clear e hcl hcl' hbE q0 hr hx
              clear hbz
              go_wp2_with fail
              obtain ⟨w0, rfl⟩ : ∃ w0, w0 = wr := ⟨_, rfl⟩
              go_loopw [7, 75] (fun q j wr => ∃ j' : Nat, j' ≤ k ∧ j = .int .i64 (j' : Int) ∧ q = .int .i64 ((tenIf (rowClash has r j') : Nat) : Int) ∧ Below w.heap.size w wr) (fun _ j _ => k - (intOf j).toNat)
              case atStart => exact ⟨0, Nat.zero_le _, rfl, rfl, Hbz.out⟩
              case round =>
                obtain ⟨j, hj, rfl, rfl, hbj⟩ := hrel
                have Hbw := Lib.hid hbj
                clear hbj
                by_cases hjk : j < k
                · obtain ⟨b2, o2, u2, r2, e2, hb2, q1, hr2, hy⟩ := (HV.out.below Hbw.out).get (Nat.lt_trans hjk hkn)
                  cases e2
                  obtain ⟨Ay, ny, cy, rfl, _⟩ := id hy
                  have hrD : has.getD j [] = r2 := by rw [List.getD_eq_getElem?_getD, hr2]; rfl
                  have hRs := rowClash_succ has r j
                  rw [hrD] at hRs
                  obtain ⟨old, hold⟩ : ∃ old, old = rowClash has r j := ⟨_, rfl⟩
                  rw [← hold] at hRs ⊢
                  have HRs := Lib.hid hRs
                  have hcy := Hok.out r2 (List.mem_of_getElem? hr2)
                  have q0 : wr.cell? ⟨bE, oE + k, none⟩ = some (.slice Ax nx cx) := (Hbw.out.cell (p := ⟨bE, oE + k, none⟩) HbE.out).trans Hq0.out
                  have hbEw : bE < wr.heap.size := Nat.lt_of_lt_of_le HbE.out Hbw.out.size
                  have HbD := Lib.hid ((Below.refl wr.heap.size wr).drew)
                  have HSk := Lib.hid (show ∀ w', Below wr.heap.size wr w' → w'.cell? ⟨bE, oE + k, none⟩ = some (.slice Ax nx cx) ∧ w'.cell? ⟨bE, oE + j, none⟩ = some (.slice Ay ny cy) ∧ Below wr.heap.size wr w' from fun w' hb => ⟨(hb.cell (p := ⟨bE, oE + k, none⟩) hbEw).trans q0, (hb.cell (p := ⟨bE, oE + j, none⟩) hbEw).trans q1, hb⟩)
                  have HSH := Lib.hid (fun (w' : World) (hb : Below wr.heap.size wr w') => setof_any w' (.slice Ax nx cx) r ((((Hx.out.below Hbw.out).more Hbw.out.size).below hb).more hb.size) (cellsF_wf Hcx.out) (by have := cellsF_len Hcx.out; omega))
                  have HSW := Lib.hid (fun (w' : World) (hb : Below wr.heap.size wr w') => setof_any w' (.slice Ay ny cy) r2 (((hy.more Hbw.out.size).below hb).more hb.size) (cellsF_wf hcy) (by have := cellsF_len hcy; omega))
                  have s1 : (0 : Int) ≤ (k : Int) := by omega
                  have s2 : (k : Int) < (n' : Int) := by omega
                  have s3 : (0 : Int) ≤ (j : Int) := by omega
                  have s4 : (j : Int) < (n' : Int) := by omega
                  have s5 : (j : Int) < (k : Int) := by omega
                  have hw0 : w.heap.size ≤ wr.heap.size := Hbw.out.size
                  by_cases hm : meets r r2 = true
                  · have HTo := Lib.hid (fun (w' : World) (b b' : Nat) (h1 : SetM w' b r.length (· ∈ r)) (h2 : SetM w' b' r2.length (· ∈ r2)) => show Calls _ _ _ _ (HasPost true w') from hm ▸ touches_any w' b r.length b' r2.length r r2 h1 h2 (cellsF_wf Hcx.out))
                    have HR := Lib.hid (show rowClash has r (j + 1) = true from by rw [HRs.out, hm]; simp)
                    clear hm hy hr2 hrD hRs hold hcy
                    go_wp2_with fail
                    go_region_held3 (fun w' => w'.cell? ⟨bE, oE + k, none⟩ = some (.slice Ax nx cx) ∧ w'.cell? ⟨bE, oE + j, none⟩ = some (.slice Ay ny cy) ∧ Below wr.heap.size wr w') (with_reducible (first | exact HSk.out _ hbT | exact HSk.out _ hbW | exact HSk.out _ hbH | exact HSk.out _ HbD.out))
                      (first
                        | (go_at_call 32; refine (HSW.out _ hbH).mono ?_; rintro e wW ⟨bW, rfl, _, hsW, hlW⟩; have hbW : Below wr.heap.size wr wW := hbH.trans (hlW.mono hbH.size); have hS1 := hsH.below hlW hsH.lt; have hS2 := hsW)
                        | (go_at_call 32; refine (HSH.out _ HbD.out).mono ?_; rintro e wH ⟨bH, rfl, _, hsH, hlH⟩; have hbH : Below wr.heap.size wr wH := HbD.out.trans hlH)
                        | (go_at_call 33; refine (HTo.out wW bH bW hS1 hS2).mono ?_; rintro e wT ⟨rfl, hlT⟩; have hbT : Below wr.heap.size wr wT := hbW.trans (hlT.mono hbW.size)))
                    go_wp2_with fail
                    go_roundw
                    case rel =>
                      (repeat apply Exists.intro)
                      exact ⟨⟨j + 1, by omega, by go_num, by rw [HR.out]; rfl, Hbw.out.trans (hbT.mono hw0)⟩, rfl⟩
                    case measure => simp [intOf]; omega
                  · have hm' : meets r r2 = false := by simpa using hm
                    have HTo := Lib.hid (fun (w' : World) (b b' : Nat) (h1 : SetM w' b r.length (· ∈ r)) (h2 : SetM w' b' r2.length (· ∈ r2)) => show Calls _ _ _ _ (HasPost false w') from hm' ▸ touches_any w' b r.length b' r2.length r r2 h1 h2 (cellsF_wf Hcx.out))
                    have HR := Lib.hid (show rowClash has r (j + 1) = old from by rw [HRs.out, hm']; simp)
                    clear hm hm' hy hr2 hrD hRs hold hcy
                    go_wp2_with fail
                    go_region_held3 (fun w' => w'.cell? ⟨bE, oE + k, none⟩ = some (.slice Ax nx cx) ∧ w'.cell? ⟨bE, oE + j, none⟩ = some (.slice Ay ny cy) ∧ Below wr.heap.size wr w') (with_reducible (first | exact HSk.out _ hbT | exact HSk.out _ hbW | exact HSk.out _ hbH | exact HSk.out _ HbD.out))
                      (first
                        | (go_at_call 32; refine (HSW.out _ hbH).mono ?_; rintro e wW ⟨bW, rfl, _, hsW, hlW⟩; have hbW : Below wr.heap.size wr wW := hbH.trans (hlW.mono hbH.size); have hS1 := hsH.below hlW hsH.lt; have hS2 := hsW)
                        | (go_at_call 32; refine (HSH.out _ HbD.out).mono ?_; rintro e wH ⟨bH, rfl, _, hsH, hlH⟩; have hbH : Below wr.heap.size wr wH := HbD.out.trans hlH)
                        | (go_at_call 33; refine (HTo.out wW bH bW hS1 hS2).mono ?_; rintro e wT ⟨rfl, hlT⟩; have hbT : Below wr.heap.size wr wT := hbW.trans (hlT.mono hbW.size)))
                    go_wp2_with fail
                    go_roundw
                    case rel =>
                      (repeat apply Exists.intro)
                      exact ⟨⟨j + 1, by omega, by go_num, by rw [HR.out], Hbw.out.trans (hbT.mono hw0)⟩, rfl⟩
                    case measure => simp [intOf]; omega
                · obtain rfl : j = k := by omega
                  have HR := Lib.hid (show fq2 has wants (j + 1) = tenIf (rowClash has r j) from by rw [fq2_of Hfz.out, clash_succ, Hnc.out, HrD.out]; simp)
                  go_wp2_with fail
                  go_roundw
                  case rel => exact ⟨j + 1, hkn, by go_num, by rw [HR.out], Hbw.out⟩
                  case measure => simp [intOf]; omega
          · obtain rfl : k = n' := by omega
            obtain ⟨x, hx⟩ : ∃ x, x = fq2 has wants k := ⟨_, rfl⟩
            rw [← hx]
            have Hx := Lib.hid hx
            clear hx
            go_wp2_with fail
            go_meet
            exact ⟨by rw [Hx.out], Hbz.out⟩
    case rest =>
      obtain ⟨rfl, hbx2⟩ := hcut
      have HSf := Lib.hid (safe_any wc _ _ _ _ ((HV.out.below hbx2).more hbx2.size) ((HV2.out.below hbx2).more hbx2.size) (by rw [Hln.out]; exact hlb') (by rw [Hln'.out]; exact hlb2'))
      have Hbx2 := Lib.hid hbx2
      have Hsq := Lib.hid (show safeF has wants = if fq2 has wants n' ≠ 0 then (fq2 has wants n', []) else match greedyF has wants n' [] with
          | none => (11, [])
          | some l => (0, l) from by have := safe_fq (has := has) (wants := wants); rw [Hln.out] at this; exact this)
      obtain ⟨x, hx⟩ : ∃ x, x = fq2 has wants n' := ⟨_, rfl⟩
      rw [← hx] at Hsq ⊢
      have Hx := Lib.hid hx
      clear hbx2 hx
      by_cases hx0 : x = 0
      rotate_left
      · have HP2 := Lib.hid (show safeF has wants = (x, []) from by rw [Hsq.out, if_pos hx0])
        have hxb : ((x : Int) != 0) = true := by simpa using hx0
        go_wp2_with fail
        refine HSf.out.mono ?_
        intro e w8 hp
        obtain ⟨v8, rfl, hown8, hb8⟩ := SafePost.is hp HP2.out
        have HP := Lib.hid (Hbx2.out.trans (hb8.mono Hbx2.out.size))
        obtain ⟨A8, c8, rfl, _⟩ := own_rd hown8
        clear hp hown8 hb8 HSf
        go_wp2_with fail
        go_ret
        exact ⟨rfl, HP.out⟩
      subst hx0
      have Hck := Lib.hid (show chkF has wants n' = 0 from by
        have h := Hx.out
        by_cases hc : fq has wants has.length = 0
        · rw [← HF0.out n', ← Hln.out]; exact hc
        · rw [fq2_not hc] at h; exact absurd h.symm hc)
      have Hok := Lib.hid (show ∀ r ∈ has, cellsF r = 0 from fun r hr => by
        obtain ⟨i, hi, rfl⟩ := List.getElem_of_mem hr
        have := (chkF_get Hck.out i (by have := Hln.out; omega)).1
        rw [List.getD_eq_getElem?_getD, List.getElem?_eq_getElem hi] at this
        exact this)
      have Hok2 := Lib.hid (show ∀ r ∈ wants, cellsF r = 0 from fun r hr => by
        obtain ⟨i, hi, rfl⟩ := List.getElem_of_mem hr
        have := (chkF_get Hck.out i (by have := Hln'.out; omega)).2
        rw [List.getD_eq_getElem?_getD, List.getElem?_eq_getElem hi] at this
        exact this)
      have Hlg := Lib.hid (show leastF has wants n' [] = greedyF has wants n' [] from least_greedy n' [] List.nodup_nil (by rw [Hln.out]; simp))
      have Hsq2 := Lib.hid (show safeF has wants = match greedyF has wants n' [] with
          | none => (11, [])
          | some l => (0, l) from by rw [Hsq.out, if_neg (by simp)])
      clear Hsq
      by_cases hn0 : n' = 0
      · subst hn0
        have HP2 := Lib.hid (show safeF has wants = (0, []) from by rw [Hsq2.out]; rfl)
        go_wp2_with fail
        refine HSf.out.mono ?_
        intro e w8 hp
        obtain ⟨v8, rfl, hown8, hb8⟩ := SafePost.is hp HP2.out
        have Hb8 := Lib.hid (Hbx2.out.trans (hb8.mono Hbx2.out.size))
        have HLn := Lib.hid (least_nil w8 A A' c c')
        have Hs8 := Lib.hid (own_sli (l := []) hown8)
        obtain ⟨A8, c8, rfl, _⟩ := own_rd hown8
        have HE := Lib.hid (equal_ints w8 (.slice A8 0 c8) (.slice none 0 0) w8.heap.size [] [] Hs8.out (own_sli (base := w8.heap.size) (l := []) (World.ownsRow_nil w8 _ _ _)) (by simp) (by simp))
        clear hp hown8 hb8 HSf
        go_wp2_with fail
        refine HLn.out.mono ?_
        rintro e w9 ⟨rfl, rfl⟩
        clear HLn
        have he := fun (w : World) (A : Option Addr) (n c : Nat) => Lib.run_eql_slice_nil (P := Try.prog) w 22 3 A n c 0 0 Try.underlying22
        go_wp2_with fail
        refine HE.out.mono ?_
        rintro e w10 ⟨rfl, q2, rfl⟩
        have HP := Lib.hid (below_drewN Hb8.out q2)
        clear HE
        go_wp2_with fail
        go_ret
        exact ⟨rfl, HP.out⟩
      have hn0' : (0 : Int) < (n' : Int) := by omega
      have HLs := Lib.hid (fun (w8 : World) (hb : Below w.heap.size w w8) => least_any has wants (by rw [Hln.out]; exact hn4) (by rw [Hln.out, Hln'.out]) Hok.out Hok2.out n' w8 (.slice A n' c) (.slice A' n' c') (.slice none 0 0) [] ((HV.out.below hb).more hb.size) ((HV2.out.below hb).more hb.size) (own_sli (base := w8.heap.size) (l := []) (World.ownsRow_nil w8 _ _ _)) (by rw [Hln.out]; simp) (by rw [Hln.out]; omega))
      cases hg : greedyF has wants n' [] with
      | none =>
        have HP2 := Lib.hid (show safeF has wants = (11, []) from by rw [Hsq2.out, hg])
        have Hlg2 := Lib.hid (show leastF has wants n' [] = none from by rw [Hlg.out, hg])
        clear hg
        go_wp2_with fail
        refine HSf.out.mono ?_
        intro e w8 hp
        obtain ⟨v8, rfl, hown8, hb8⟩ := SafePost.is hp HP2.out
        have Hb8 := Lib.hid (Hbx2.out.trans (hb8.mono Hbx2.out.size))
        obtain ⟨A8, c8, rfl, _⟩ := own_rd hown8
        have HL8 := Lib.hid (HLs.out w8 Hb8.out)
        clear hp hown8 hb8 HSf
        go_wp2_with fail
        refine HL8.out.mono ?_
        intro e w9 hp
        rcases hp with ⟨_, rfl, hb9⟩ | ⟨lo, b9, o9, n9, c9, h1, rfl, hs9, hb9⟩
        rotate_left
        · rw [Hlg2.out] at h1; cases h1
        have HP := Lib.hid (Hb8.out.trans (hb9.mono Hb8.out.size))
        clear hb9 HL8
        have he := fun (w : World) (A : Option Addr) (n c : Nat) => Lib.run_eql_slice_nil (P := Try.prog) w 22 3 A n c 0 0 Try.underlying22
        go_wp2_with fail
        go_ret
        exact ⟨rfl, HP.out⟩
      | some lo =>
        have HP2 := Lib.hid (show safeF has wants = (0, lo) from by rw [Hsq2.out, hg])
        have Hlg2 := Lib.hid (show leastF has wants n' [] = some lo from by rw [Hlg.out, hg])
        have Hll := Lib.hid (show lo.length = n' from by have := (greedy_law n' [] lo hg).1; simpa using this)
        clear hg
        go_wp2_with fail
        refine HSf.out.mono ?_
        intro e w8 hp
        obtain ⟨v8, rfl, hown8, hb8⟩ := SafePost.is hp HP2.out
        have Hb8 := Lib.hid (Hbx2.out.trans (hb8.mono Hbx2.out.size))
        have Hs8 := Lib.hid (own_sli (l := lo) hown8)
        obtain ⟨A8, c8, rfl, _⟩ := own_rd hown8
        have HL8 := Lib.hid (HLs.out w8 Hb8.out)
        clear hp hown8 hb8 HSf
        go_wp2_with fail
        refine HL8.out.mono ?_
        intro e w9 hp
        rcases hp with ⟨h1, rfl, hb9⟩ | ⟨lo2, b9, o9, n9, c9, h1, rfl, hs9, hb9⟩
        · rw [Hlg2.out] at h1; cases h1
        have h2 : lo2 = lo := by rw [Hlg2.out] at h1; injection h1 with h1; exact h1.symm
        subst h2
        have HP := Lib.hid (Hb8.out.trans (hb9.mono Hb8.out.size))
        have HE := equal_ints w9 _ _ w9.heap.size lo2 lo2 ((Hs8.out.below hb9).more hb9.size) hs9 (by rw [Hll.out]; omega) (by rw [Hll.out]; omega)
        rw [decide_eq_true rfl] at HE
        have HE := Lib.hid HE
        clear hb9 HL8 h1 hs9
        have he := fun (w : World) (A : Option Addr) (n c : Nat) => Lib.run_eql_slice_nil (P := Try.prog) w 22 3 A n c 0 0 Try.underlying22
        go_wp2_with fail
        refine HE.out.mono ?_
        rintro e w10 ⟨rfl, q2, rfl⟩
        have HP2 := Lib.hid (below_drewN HP.out q2)
        clear HE
        go_wp2_with fail
        go_ret
        exact ⟨rfl, HP2.out⟩
end Go.Proofs.Ytambngbkegnghaa.ringSafe
