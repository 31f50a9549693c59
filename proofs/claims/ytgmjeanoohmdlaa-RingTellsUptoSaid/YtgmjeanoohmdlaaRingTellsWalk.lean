/- RingTells's walk: it returns true. Conditions: the rows' bulk is at most 1048576. -/
import Derived.Test.YtgmjeanoohmdlaaTellsToys
import Derived.Deep.RegionHeld3
namespace Go.Proofs.Ytgmjeanoohmdlaa.ringTells
open Go.RowKit Go.Gy
set_option linter.unusedVariables false
theorem equal_same (w : World) (v v' : Value) (B : Nat) (xs : List Int) (hx : SlI w B v xs) (hy : SlI w B v' xs) (hb : xs.length ≤ 140737488355328) :
    Calls Try.prog 7 #[v, v'] w fun e w' => e = .returned (.bool true) ∧ ∃ q, w' = w.drewN q := by
  have h := equal_ints w v v' B xs xs hx hy hb hb
  rwa [decide_eq_true rfl] at h
def InRel (w : World) (n : Nat) (p : Nat → Bool) (t i : Value) (wr : World) : Prop := ∃ k : Nat, k ≤ n ∧ i = .int .i64 (k : Int) ∧ wr.ownsRow w.heap.size 3 1 t (stuckI p k).length ((stuckI p k).map iv) ∧ Below w.heap.size w wr
set_option maxRecDepth 100000 in
set_option maxHeartbeats 4000000 in
theorem walk (v : Value) (w : World) {b0 : Nat} (f0 : IntRowsArg w v b0) (hk : b0 ≤ 1048576) :
    Calls Try.prog 4 #[v] w fun e w' => e = .returned (.bool true) ∧ Below w.heap.size w w' := by
  obtain ⟨rs, hv, hrl, hrn, _⟩ := f0
  have hlen : rs.length ≤ 1048576 := by omega
  have hrow : ∀ r ∈ rs, r.length ≤ 1048576 := fun r hr => by have := (hrl r hr).2.1; omega
  obtain ⟨A, n, c, vs, rfl, hN, _, _, hr, hs⟩ := id hv
  have HF0 := Lib.hid (find2 ((((w.alloc (.cells #[.slice A n c] 26)).alloc (.cells #[.int .i64 1] 3)).alloc (.cells #[.int .i64 0] 3)).alloc (.cells #[.slice (some ⟨w.heap.size + 1, 0, none⟩) 1 1, .slice (some ⟨w.heap.size + 1 + 1, 0, none⟩) 1 1] 22)) (.slice (some ⟨w.heap.size + 1 + 2, 0, none⟩) 2 2) (by
    have h := rows_pair (w.alloc (.cells #[.slice A n c] 26))
    rw [World.size_alloc, World.size_alloc, World.size_alloc, World.size_alloc]
    rw [World.size_alloc] at h
    exact h))
  have hbA : Below w.heap.size w ((((w.alloc (.cells #[.slice A n c] 26)).alloc (.cells #[.int .i64 1] 3)).alloc (.cells #[.int .i64 0] 3)).alloc (.cells #[.slice (some ⟨w.heap.size + 1, 0, none⟩) 1 1, .slice (some ⟨w.heap.size + 1 + 1, 0, none⟩) 1 1] 22)) := ((((Below.refl _ _).alloc (Nat.le_refl _) _).alloc (by simp) _).alloc (by simp; omega) _).alloc (by simp; omega) _
  have hBox : Blk ((((w.alloc (.cells #[.slice A n c] 26)).alloc (.cells #[.int .i64 1] 3)).alloc (.cells #[.int .i64 0] 3)).alloc (.cells #[.slice (some ⟨w.heap.size + 1, 0, none⟩) 1 1, .slice (some ⟨w.heap.size + 1 + 1, 0, none⟩) 1 1] 22)) w.heap.size 26 #[.slice A n c] := (((Blk.new w _ _).alloc _).alloc _).alloc _
  have HbA := Lib.hid hbA
  have HBox := Lib.hid hBox
  have Hv := Lib.hid hv
  have HN := Lib.hid hN
  have Hs := Lib.hid hs
  have Hrow := Lib.hid hrow
  have hn1 : n ≤ 1048576 := by omega
  clear hrl hrn hk hv hN hs hbA hBox hrow
  go_enter Try.func4, Try.ntmps4
  go_wp2_with fail
  refine HF0.out.mono ?_
  rintro e w1 ⟨v1, rfl, hown1, hb1⟩
  have hb1' := HbA.out.trans (hb1.mono HbA.out.size)
  have hz1 := hb1'.size
  have hBox1 := HBox.out.below hb1 HBox.out.lt
  have S1 := SlI.own (r := [0, 1]) hown1
  have HE := Lib.hid (equal_ints (w1.alloc (.cells #[.int .i64 0, .int .i64 1] 3)) v1 (.slice (some ⟨w1.heap.size, 0, none⟩) 2 2) (w1.heap.size + 1) [0, 1] [0, 1] ((S1.below ((Below.refl _ _).alloc (Nat.le_refl _) _)).more (by omega)) ⟨_, 2, 2, rfl, rfl, Nat.le_refl _, (fun h => by cases h), Rd.lit w1 3 [iv 0, iv 1] 1 2 rfl⟩ (by simp) (by simp))
  have Hb1 := Lib.hid hb1'
  have HBox1 := Lib.hid hBox1
  obtain ⟨A1, c1, rfl, _, _, _⟩ := own_rd hown1
  clear hown1 hb1 hb1' HF0 HbA S1 hBox1 HBox
  go_wp2_with fail
  refine HE.out.mono ?_
  rintro e w2 ⟨rfl, q1, rfl⟩
  have hbw2 : Below w.heap.size w ((w1.alloc (.cells #[.int .i64 0, .int .i64 1] 3)).drewN q1) := below_drewN (Hb1.out.alloc hz1 _) _
  have hBox2 : Blk ((w1.alloc (.cells #[.int .i64 0, .int .i64 1] 3)).drewN q1) w.heap.size 26 #[.slice A n c] := (HBox1.out.alloc _).drewN _
  obtain ⟨w2, hw2⟩ : ∃ w2, w2 = (w1.alloc (.cells #[.int .i64 0, .int .i64 1] 3)).drewN q1 := ⟨_, rfl⟩
  rw [← hw2] at hbw2 hBox2 ⊢
  have hz2 := hbw2.size
  have hcb2 := hBox2.cell 0 _ rfl
  have hrows2 := (Hv.out.below hbw2).more hz2
  have Hbw2 := Lib.hid hbw2
  have HBox2 := Lib.hid hBox2
  have Hrows2 := Lib.hid hrows2
  clear HE hw2 Hb1 HBox1 hbw2 hBox2 hrows2
  obtain ⟨f, hf⟩ : ∃ f, f = checkR rs := ⟨_, rfl⟩
  have Hf := Lib.hid hf
  clear hf
  have hst : ∃ f0 : Nat, f0 = faultK rs 0 ∧ ((64 < n ∧ f0 = 2) ∨ (¬ 64 < n ∧ f0 = 0)) := by
    refine ⟨_, rfl, ?_⟩
    rw [faultK_zero, HN.out]
    by_cases h : 64 < n
    · exact .inl ⟨h, by rw [if_pos h]⟩
    · exact .inr ⟨h, by rw [if_neg h]⟩
  obtain ⟨f0, hf0, hf1⟩ := hst
  have Hf0 := Lib.hid hf0
  clear hf0
  rcases hf1 with ⟨h64, hf2⟩ | ⟨h64, hf2⟩
  · have h64' : (64 : Int) < (n : Int) := by omega
    have Hck := Lib.hid (show checkR rs = 2 by unfold checkR; rw [if_pos (by rw [HN.out]; exact h64)])
    clear hf2
    go_wp2_with fail
    go_loop [5, 36] (fun fv i => ∃ k : Nat, k ≤ n ∧ i = .int .i64 (k : Int) ∧ fv = .int .i64 2) (fun _ i => n - (intOf i).toNat)
    case atStart => exact ⟨0, Nat.zero_le _, rfl, rfl⟩
    case round =>
      obtain ⟨k, hk, rfl, rfl⟩ := hrel
      by_cases hkn : k < n
      · have hkn' : (k : Int) < (n : Int) := by omega
        obtain ⟨b, o, u, rfl, hbB, hu, hc⟩ := (hr.below Hbw2.out).at_ hkn
        clear hu
        go_wp2_with fail
        go_round
        case rel => exact ⟨k + 1, by omega, by go_num, rfl⟩
        case measure => simp [intOf]; omega
      · obtain rfl : k = n := by omega
        have HS := Lib.hid (stuck_bad w2 _ rs Hrows2.out (by omega) (fun r hr => by have := Hrow.out r hr; omega) (by rw [Hck.out]; omega))
        have HF := Lib.hid (find_bad w2 _ rs Hrows2.out (by omega) (fun r hr => by have := Hrow.out r hr; omega) (by rw [Hck.out]; omega))
        have HO := Lib.hid (order_bad w2 _ rs Hrows2.out (by omega) (fun r hr => by have := Hrow.out r hr; omega) (by rw [Hck.out]; omega))
        have HC := Lib.hid (check_ring w2 _ _ rs Hrows2.out (by omega) (fun r hr => by have := Hrow.out r hr; omega))
        rw [Hck.out] at HS HF HO HC
        go_wp2_with fail
        refine HS.out.mono ?_
        rintro e w' ⟨rfl, rfl⟩
        clear HS
        go_wp2_with fail
        refine HF.out.mono ?_
        rintro e w' ⟨rfl, rfl⟩
        clear HF
        go_wp2_with fail
        refine HO.out.mono ?_
        rintro e w' ⟨rfl, rfl⟩
        clear HO
        go_wp2_with fail
        refine HC.out.mono ?_
        rintro e w' ⟨rfl, rfl⟩
        clear HC
        go_wp2_with fail
        go_ret
        exact ⟨rfl, Hbw2.out⟩
  · have h64' : ¬ (64 : Int) < (n : Int) := by omega
    clear hf2
    go_wp2_with fail
    go_loop [5, 36] (fun fv i => ∃ k f : Nat, k ≤ n ∧ i = .int .i64 (k : Int) ∧ fv = .int .i64 (f : Int) ∧ f ≤ 1 ∧ Hid (f = faultK rs k)) (fun _ i => n - (intOf i).toNat)
    case atStart => exact ⟨0, 0, Nat.zero_le _, rfl, rfl, by omega, Lib.hid (by rw [faultK_zero, if_neg (by rw [HN.out]; exact h64)])⟩
    case round =>
      obtain ⟨k, f, hk, rfl, rfl, hf1, hfk⟩ := hrel
      by_cases hkn : k < n
      · have hkn' : (k : Int) < (n : Int) := by omega
        obtain ⟨b, o, u, rfl, hbB, hu, hc⟩ := (hr.below Hbw2.out).at_ hkn
        have hrk : rs[k]? = some (rs[k]'(by have := HN.out; omega)) := List.getElem?_eq_getElem _
        obtain ⟨r, hr0⟩ : ∃ r, r = rs[k]'(by have := HN.out; omega) := ⟨_, rfl⟩
        rw [← hr0] at hrk
        have hsr := (Hs.out.below Hbw2.out).2 k u r hu hrk
        obtain ⟨Ar, mr, cr, rfl, _⟩ := id hsr
        by_cases hf0 : f = 0
        · have hnx := faultK_next (by rw [← hfk.out, hf0]) hrk
          rw [HN.out] at hnx
          have HF := Lib.hid (contf_any 13 (enters_own Try.func13 (by kernel_rfl) rfl) w2 #[.pointer (some ⟨w.heap.size, 0, none⟩)] (badK n) _ _ r hsr (by have := Hrow.out r (List.mem_of_getElem? hrk); omega) (fun x _ => closure_tells w2 x w.heap.size n c _ hcb2 (by omega)))
          have Hnx := Lib.hid hnx
          subst hf0
          clear hfk hu hrk hr0 hsr hnx
          go_wp2_with fail
          refine HF.out.mono ?_
          rintro e w' ⟨rfl, rfl⟩
          obtain ⟨q, hq⟩ : ∃ q, r.any (badK n) = q := ⟨_, rfl⟩
          rw [hq]
          rw [hq] at Hnx
          clear hq HF
          cases q with
          | true =>
            go_wp2_with fail
            go_round
            case rel => exact ⟨k + 1, 1, by omega, by go_num, rfl, by omega, Lib.hid (by rw [Hnx.out]; rfl)⟩
            case measure => simp [intOf]; omega
          | false =>
            go_wp2_with fail
            go_round
            case rel => exact ⟨k + 1, 0, by omega, by go_num, rfl, by omega, Lib.hid (by rw [Hnx.out]; rfl)⟩
            case measure => simp [intOf]; omega
        · obtain rfl : f = 1 := by omega
          have Hnx := Lib.hid (faultK_stay (rs := rs) (k := k) (by rw [← hfk.out]; omega))
          clear hu hrk hr0 hsr
          go_wp2_with fail
          go_round
          case rel => exact ⟨k + 1, 1, by omega, by go_num, rfl, by omega, Lib.hid (by rw [Hnx.out]; exact hfk.out)⟩
          case measure => simp [intOf]; omega
      · obtain rfl : k = n := by omega
        have Hck := Lib.hid (show checkR rs = f by rw [← faultK_all, HN.out]; exact hfk.out.symm)
        clear hfk
        by_cases hf0 : f = 0
        · subst hf0
          have hgood := GoodG.of_check Hck.out (by
            have hle : rs.length ≤ 64 := by rw [HN.out]; omega
            have : ∀ (l : List (List Int)), (∀ r ∈ l, r.length ≤ 1048576) → l.flatten.length ≤ l.length * 1048576 := by
              intro l
              induction l with
              | nil => intro _; simp
              | cons r l ih =>
                intro h
                have h1 := h r (by simp)
                have h2 := ih fun q hq => h q (by simp [hq])
                rw [List.flatten_cons, List.length_append, List.length_cons, Nat.succ_mul]
                omega
            have := this rs Hrow.out
            have h3 : rs.length * 1048576 ≤ 64 * 1048576 := Nat.mul_le_mul_right _ hle
            omega)
          obtain ⟨p, hp⟩ := reach_dec rs
          have Hgood := Lib.hid hgood
          have Hp := Lib.hid hp
          have HS := Lib.hid (stuck_good w2 _ rs Hrows2.out hgood p hp)
          have HC := Lib.hid (fun (wx : World) (hb : Below w2.heap.size w2 wx) => check_ring wx _ _ rs (Hrows2.out.below hb) (by omega) (fun r hr => by have := Hrow.out r hr; omega))
          have hn64 : k ≤ 64 := by omega
          obtain ⟨j0, hji, hy0, hy1, hy2⟩ := info_parts info_int
          clear hgood hp
          go_wp2_with fail
          refine HS.out.mono ?_
          rintro e w3 ⟨v3, rfl, hown3, hb3⟩
          rw [HN.out] at hown3
          have hS3 := SlI.own (r := stuckI p k) hown3
          have HS3 := Lib.hid hS3
          have hcb3 := (HBox2.out.below hb3 HBox2.out.lt).cell 0 _ rfl
          obtain ⟨st, hst⟩ : ∃ st, st = stuckI p k := ⟨_, rfl⟩
          rw [← hst] at hown3
          have hstl : st.length ≤ 64 := by have := stuckI_len p k; rw [← hst] at this; omega
          have Hst := Lib.hid hst
          have Hb3 := Lib.hid hb3
          have hz3 := hb3.size
          clear HS hb3 hS3
          cases st with
          | nil =>
            have h0 : stuckI p rs.length = [] := by rw [HN.out]; exact hst.symm
            have HF := Lib.hid (find_none w3 _ rs ((Hrows2.out.below Hb3.out).more Hb3.out.size) Hgood.out p Hp.out h0)
            have HO := Lib.hid (fun (wx : World) (hb : Below w2.heap.size w2 wx) => order_good wx _ rs ((Hrows2.out.below hb).more hb.size) Hgood.out p Hp.out h0)
            obtain ⟨A3, c3, rfl, _, _, _⟩ := own_rd hown3
            clear h0 hst hown3
            go_wp2_with fail
            refine HF.out.mono ?_
            rintro e w4 ⟨rfl, hb4⟩
            have Hb4 := Lib.hid (Hb3.out.trans (hb4.mono hz3))
            have HS4 := Lib.hid ((HS3.out.below hb4).more hb4.size)
            have hcb4 := (HBox2.out.below Hb4.out HBox2.out.lt).cell 0 _ rfl
            have HO4 := Lib.hid (HO.out w4 Hb4.out)
            clear HF HO hb4 HS3
            go_wp2_with fail
            refine HO4.out.mono ?_
            rintro e w5 ⟨v5, rfl, hown5, hb5⟩
            have Hb5 := Lib.hid (Hb4.out.trans (hb5.mono Hb4.out.size))
            have HS5 := Lib.hid ((HS4.out.below hb5).more hb5.size)
            rw [HN.out] at hown5
            have HO5 := Lib.hid (SlI.own (r := orderN rs k) hown5)
            obtain ⟨A5, c5, rfl, _, _, _⟩ := own_rd hown5
            clear hown5 hb5 HO4 HS4
            have HC5 := Lib.hid (HC.out w5 Hb5.out)
            rw [Hck.out] at HC5
            have hcb5 := (HBox2.out.below Hb5.out HBox2.out.lt).cell 0 _ rfl
            clear HC
            go_wp2_with fail
            refine HC5.out.mono ?_
            rintro e w' ⟨rfl, rfl⟩
            clear HC5
            go_wp2_with fail
            go_loopw [14, 95] (fun t i wr => InRel w5 k p t i wr) (fun _ i _ => k - (intOf i).toNat)
            case atStart => exact ⟨0, Nat.zero_le _, rfl, (show w5.ownsRow w5.heap.size 3 1 (.slice none 0 0) 0 [] from World.ownsRow_nil _ _ _ _), Below.refl _ _⟩
            case round =>
              obtain ⟨wx, rfl⟩ : ∃ wx, wx = wr := ⟨_, rfl⟩
              obtain ⟨i, hik, rfl, hown, hbx⟩ := hrel
              have Hown := Lib.hid hown
              have hbx2 := Lib.hid (Hb5.out.trans (hbx.mono Hb5.out.size))
              have hcbx := (HBox2.out.below hbx2.out HBox2.out.lt).cell 0 _ rfl
              have hzx := hbx.size
              have hsl := stuckI_len p i
              clear hown
              by_cases hlt : i < k
              · have hlt' : (i : Int) < (k : Int) := by omega
                have HR := Lib.hid (reached_any wx _ i rs ((Hrows2.out.below hbx2.out).more hbx2.out.size) Hgood.out (by rw [HN.out]; exact hlt))
                go_wp2_with fail
                refine HR.out.mono ?_
                rintro e w6 ⟨g, sl, rfl, hgr, hB, hsll, hre, hb6⟩
                rw [HN.out]
                have hpk : sl[i]? = some (p i) := by
                  have hl : i < sl.length := by rw [hsll, HN.out]; exact hlt
                  rw [List.getElem?_eq_getElem hl]
                  congr 1
                  rw [Bool.eq_iff_iff, Hp.out i, ← hre i, List.getElem?_eq_getElem hl]
                  simp
                have hcb := hB.cell i (.bool (p i)) (bools_at hpk)
                have Hown1 := Lib.hid (own_below Hown.out hb6 (Nat.le_refl _))
                have hbw1 := hbx.trans (hb6.mono hzx)
                have hz1' := hbw1.size
                have hbig : (stuckI p i).length + 1 ≤ maxLen := by unfold maxLen; omega
                have Hsn := Lib.hid (stuckI_snoc p i)
                obtain ⟨ln, hln⟩ : ∃ ln, ln = (stuckI p i).length := ⟨_, rfl⟩
                rw [← hln] at hsl hbig Hown1
                have Hln := Lib.hid hln
                obtain ⟨At, ct, rfl, _, _, _⟩ := own_rd Hown1.out
                clear HR hpk hre hsll hB hln
                cases hpp : p i with
                | true =>
                  rw [hpp] at hcb Hsn
                  have Hpp := Lib.hid hpp
                  clear hpp
                  go_wp2_with (at_builtin; refine wpList_push rfl (.tmp 104) (.tmp 106) 22 rfl w5.heap.size 3 j0 (.int .i64 0) 1 8 Try.underlying22 hji hy0 hy1 hy2 rfl (by omega) _ ln _ rfl Hown1.out [_] rfl rfl (by simp [Value.oneCell']) hbig (by omega) hz1' ?_; intro v6 w7 hn6 hb7 _)
                  go_roundw
                  case rel => exact ⟨i + 1, by omega, by go_num, by rw [Hsn.out]; simp only [if_true, List.length_append, List.map_append, List.length_singleton, ← Hln.out]; exact hn6, hbw1.trans hb7⟩
                  case measure => simp [intOf]; omega
                | false =>
                  rw [hpp] at hcb Hsn
                  have Hpp := Lib.hid hpp
                  clear hpp
                  go_wp2_with fail
                  go_roundw
                  case rel => exact ⟨i + 1, by omega, by go_num, by rw [Hsn.out]; simp only [Bool.false_eq_true, if_false, List.append_nil, ← Hln.out]; exact Hown1.out, hbw1⟩
                  case measure => simp [intOf]; omega
              · obtain rfl : i = k := by omega
                have hlt' : ¬ (i : Int) < (i : Int) := by omega
                have hSx := SlI.own (r := stuckI p i) Hown.out
                obtain ⟨ln, hln⟩ : ∃ ln, ln = (stuckI p i).length := ⟨_, rfl⟩
                rw [← hln] at Hown hsl
                obtain ⟨At, ct, rfl, _, _, _⟩ := own_rd Hown.out
                have Hln := Lib.hid hln
                have HSx := Lib.hid hSx
                clear hSx hln
                have h00 : ln = 0 := by rw [Hln.out, ← Hst.out]; rfl
                subst h00
                have HE2 := Lib.hid (equal_same wx _ _ wx.heap.size (stuckI p i) ((HS5.out.below hbx).more hzx) HSx.out (by rw [← Hln.out]; omega))
                have HO6 := Lib.hid (HO5.out.below hbx)
                clear Hln
                go_wp2_with fail
                refine HE2.out.mono ?_
                rintro e wy ⟨rfl, q2, rfl⟩
                have hac : ∀ i, ¬ Reach rs i i := by
                  intro j hj
                  have hl : j < rs.length := by
                    cases hj with
                    | one h => exact Hgood.out.edge h
                    | more _ h => exact Hgood.out.edge h
                  have := mem_stuckI hl ((Hp.out j).2 hj)
                  rw [HN.out, ← Hst.out] at this
                  cases this
                have hby2 : Below w2.heap.size w2 (wx.drewN q2) := below_drewN hbx2.out _
                have hby5 : Below w5.heap.size w5 (wx.drewN q2) := below_drewN hbx _
                obtain ⟨wy, hwy⟩ : ∃ wy, wy = wx.drewN q2 := ⟨_, rfl⟩
                rw [← hwy] at hby2 hby5 ⊢
                have HOO := Lib.hid (orderof_any wy _ rs ((Hrows2.out.below hby2).more hby2.size) Hgood.out hac)
                have hcby := (HBox2.out.below hby2 HBox2.out.lt).cell 0 _ rfl
                have HO7 := Lib.hid ((HO5.out.below hby5).more hby5.size)
                have Hby2 := Lib.hid hby2
                clear hwy HE2 hac hby2 hby5 HO6
                go_wp2_with fail
                refine HOO.out.mono ?_
                rintro e wz ⟨vz, rfl, hownz, hbz⟩
                rw [HN.out] at hownz
                have HE3 := Lib.hid (equal_same wz _ vz wz.heap.size (orderN rs i) ((HO7.out.below hbz).more hbz.size) (SlI.own (r := orderN rs i) hownz) (by rw [orderN_len]; omega))
                have Hfin := Lib.hid (Hbw2.out.trans ((Hby2.out.trans (hbz.mono Hby2.out.size)).mono hz2))
                obtain ⟨Az, cz, rfl, _, _, _⟩ := own_rd hownz
                clear hownz hbz HOO
                go_wp2_with fail
                refine HE3.out.mono ?_
                rintro e wq ⟨rfl, q3, rfl⟩
                have hfin2 := below_drewN Hfin.out q3
                clear HE3
                go_wp2_with fail
                go_ret
                exact ⟨rfl, hfin2⟩
          | cons a' t =>
            obtain ⟨a, ha', haN, hpa⟩ := stuckI_mem (p := p) (n := k) (x := a') (by rw [← hst]; simp)
            subst ha'
            have haN' : a < rs.length := by rw [HN.out]; exact haN
            obtain ⟨d, hd1, hdn, hw, hmin⟩ := least_way Hgood.out haN' ((Hp.out a).1 hpa)
            have hsn : stuckI p rs.length = (a : Int) :: t := by rw [HN.out]; exact hst.symm
            have HF := Lib.hid (find_some w3 _ rs ((Hrows2.out.below Hb3.out).more Hb3.out.size) Hgood.out p Hp.out a t hsn d hd1 hdn hw hmin)
            have HO := Lib.hid (fun (wx : World) (hb : Below w2.heap.size w2 wx) => order_ring wx _ rs ((Hrows2.out.below hb).more hb.size) Hgood.out p Hp.out (by rw [hsn]; simp))
            have HRo := Lib.hid (fun (wx : World) (hb : Below w2.heap.size w2 wx) => ringof_any wx _ rs ((Hrows2.out.below hb).more hb.size) Hgood.out a d haN' hd1 hdn hw hmin)
            have hLl : ((a : Int) :: wayK rs (farK rs a d) (d - 1) a).length ≤ 64 := by rw [List.length_cons, wayK_len]; have := HN.out; omega
            obtain ⟨L, hL⟩ : ∃ L, L = (a : Int) :: wayK rs (farK rs a d) (d - 1) a := ⟨_, rfl⟩
            rw [← hL] at HF HRo hLl
            obtain ⟨sl0, hsl0⟩ : ∃ sl0, sl0 = ((a : Int) :: t).length := ⟨_, rfl⟩
            rw [← hsl0] at hown3 hstl
            obtain ⟨A3, c3, rfl, _, _, _⟩ := own_rd hown3
            clear hst hown3 haN' hpa hd1 hdn hw hmin hsn hL hsl0
            go_wp2_with fail
            refine HF.out.mono ?_
            rintro e w4 ⟨v4, rfl, hown4, hb4⟩
            have Hb4 := Lib.hid (Hb3.out.trans (hb4.mono hz3))
            have HS4 := Lib.hid ((HS3.out.below hb4).more hb4.size)
            have hcb4 := (HBox2.out.below Hb4.out HBox2.out.lt).cell 0 _ rfl
            have HO4 := Lib.hid (HO.out w4 Hb4.out)
            have HL4 := Lib.hid (SlI.own (r := L) hown4)
            obtain ⟨A4, c4, rfl, _, _, _⟩ := own_rd hown4
            clear HF HO hb4 HS3 hown4
            go_wp2_with fail
            refine HO4.out.mono ?_
            rintro e w5 ⟨rfl, hb5⟩
            have Hb5 := Lib.hid (Hb4.out.trans (hb5.mono Hb4.out.size))
            have HS5 := Lib.hid ((HS4.out.below hb5).more hb5.size)
            have HL5 := Lib.hid ((HL4.out.below hb5).more hb5.size)
            clear hb5 HO4 HS4 HL4
            have HC5 := Lib.hid (HC.out w5 Hb5.out)
            rw [Hck.out] at HC5
            have hcb5 := (HBox2.out.below Hb5.out HBox2.out.lt).cell 0 _ rfl
            clear HC
            go_wp2_with fail
            refine HC5.out.mono ?_
            rintro e w' ⟨rfl, rfl⟩
            clear HC5
            go_wp2_with fail
            go_loopw [14, 95] (fun t i wr => InRel w5 k p t i wr) (fun _ i _ => k - (intOf i).toNat)
            case atStart => exact ⟨0, Nat.zero_le _, rfl, (show w5.ownsRow w5.heap.size 3 1 (.slice none 0 0) 0 [] from World.ownsRow_nil _ _ _ _), Below.refl _ _⟩
            case round =>
              obtain ⟨wx, rfl⟩ : ∃ wx, wx = wr := ⟨_, rfl⟩
              obtain ⟨i, hik, rfl, hown, hbx⟩ := hrel
              have Hown := Lib.hid hown
              have hbx2 := Lib.hid (Hb5.out.trans (hbx.mono Hb5.out.size))
              have hcbx := (HBox2.out.below hbx2.out HBox2.out.lt).cell 0 _ rfl
              have hzx := hbx.size
              have hsl := stuckI_len p i
              clear hown
              by_cases hlt : i < k
              · have hlt' : (i : Int) < (k : Int) := by omega
                have HR := Lib.hid (reached_any wx _ i rs ((Hrows2.out.below hbx2.out).more hbx2.out.size) Hgood.out (by rw [HN.out]; exact hlt))
                go_wp2_with fail
                refine HR.out.mono ?_
                rintro e w6 ⟨g, sl, rfl, hgr, hB, hsll, hre, hb6⟩
                rw [HN.out]
                have hpk : sl[i]? = some (p i) := by
                  have hl : i < sl.length := by rw [hsll, HN.out]; exact hlt
                  rw [List.getElem?_eq_getElem hl]
                  congr 1
                  rw [Bool.eq_iff_iff, Hp.out i, ← hre i, List.getElem?_eq_getElem hl]
                  simp
                have hcb := hB.cell i (.bool (p i)) (bools_at hpk)
                have Hown1 := Lib.hid (own_below Hown.out hb6 (Nat.le_refl _))
                have hbw1 := hbx.trans (hb6.mono hzx)
                have hz1' := hbw1.size
                have hbig : (stuckI p i).length + 1 ≤ maxLen := by unfold maxLen; omega
                have Hsn := Lib.hid (stuckI_snoc p i)
                obtain ⟨ln, hln⟩ : ∃ ln, ln = (stuckI p i).length := ⟨_, rfl⟩
                rw [← hln] at hsl hbig Hown1
                have Hln := Lib.hid hln
                obtain ⟨At, ct, rfl, _, _, _⟩ := own_rd Hown1.out
                clear HR hpk hre hsll hB hln
                cases hpp : p i with
                | true =>
                  rw [hpp] at hcb Hsn
                  have Hpp := Lib.hid hpp
                  clear hpp
                  go_wp2_with (at_builtin; refine wpList_push rfl (.tmp 104) (.tmp 106) 22 rfl w5.heap.size 3 j0 (.int .i64 0) 1 8 Try.underlying22 hji hy0 hy1 hy2 rfl (by omega) _ ln _ rfl Hown1.out [_] rfl rfl (by simp [Value.oneCell']) hbig (by omega) hz1' ?_; intro v6 w7 hn6 hb7 _)
                  go_roundw
                  case rel => exact ⟨i + 1, by omega, by go_num, by rw [Hsn.out]; simp only [if_true, List.length_append, List.map_append, List.length_singleton, ← Hln.out]; exact hn6, hbw1.trans hb7⟩
                  case measure => simp [intOf]; omega
                | false =>
                  rw [hpp] at hcb Hsn
                  have Hpp := Lib.hid hpp
                  clear hpp
                  go_wp2_with fail
                  go_roundw
                  case rel => exact ⟨i + 1, by omega, by go_num, by rw [Hsn.out]; simp only [Bool.false_eq_true, if_false, List.append_nil, ← Hln.out]; exact Hown1.out, hbw1⟩
                  case measure => simp [intOf]; omega
              · obtain rfl : i = k := by omega
                have hlt' : ¬ (i : Int) < (i : Int) := by omega
                have hSx := SlI.own (r := stuckI p i) Hown.out
                obtain ⟨ln, hln⟩ : ∃ ln, ln = (stuckI p i).length := ⟨_, rfl⟩
                rw [← hln] at Hown hsl
                obtain ⟨At, ct, rfl, _, _, _⟩ := own_rd Hown.out
                have Hln := Lib.hid hln
                have HSx := Lib.hid hSx
                clear hSx hln
                have hln1 : 0 < ln := by rw [Hln.out, ← Hst.out]; simp
                have hln0 : ((ln : Int) == 0) = false := by simp; omega
                have hln00 : ¬ ln = 0 := by omega
                obtain ⟨gi, cti, he, _, _, hgil⟩ := own_shape Hown.out hln1
                injection he with he1 he2 he3
                subst he1 he3
                have hci := Hown.out.cellAt 0 (by omega)
                rw [← Hst.out] at hci
                simp only [List.map_cons, List.getElem?_cons_zero] at hci
                have HE2 := Lib.hid (equal_same wx _ _ wx.heap.size (stuckI p i) ((HS5.out.below hbx).more hzx) HSx.out (by rw [← Hln.out]; omega))
                clear Hln
                go_wp2_with fail
                refine HE2.out.mono ?_
                rintro e wy ⟨rfl, q2, rfl⟩
                have hby2 : Below w2.heap.size w2 (wx.drewN q2) := below_drewN hbx2.out _
                have hby5 : Below w5.heap.size w5 (wx.drewN q2) := below_drewN hbx _
                have hciy : (wx.drewN q2).cell? ⟨gi, 0, none⟩ = some (.int .i64 (a : Int)) := hci
                have hgily : gi < (wx.drewN q2).heap.size := hgil
                obtain ⟨wy, hwy⟩ : ∃ wy, wy = wx.drewN q2 := ⟨_, rfl⟩
                rw [← hwy] at hby2 hby5 hciy hgily ⊢
                have hcby := (HBox2.out.below hby2 HBox2.out.lt).cell 0 _ rfl
                have hwly : w.heap.size < wy.heap.size := by have := hby2.size; have := HBox2.out.lt; omega
                have HL7 := Lib.hid (fun (w' : World) (h : Below wy.heap.size wy w') => ((HL5.out.below (hby5.trans (h.mono hby5.size))).more (Nat.le_trans hby5.size h.size)))
                have HRy := Lib.hid (fun (w' : World) (h : Below wy.heap.size wy w') => HRo.out w' (hby2.trans (h.mono hby2.size)))
                have HSy := Lib.hid (fun (w' : World) (h : Below wy.heap.size wy w') => (show w'.cell? ⟨w.heap.size, 0, none⟩ = some (.slice A i c) ∧ w'.cell? ⟨gi, 0, none⟩ = some (.int .i64 (a : Int)) ∧ Below wy.heap.size wy w' from ⟨(h.cell (p := ⟨w.heap.size, 0, none⟩) hwly).trans hcby, (h.cell (p := ⟨gi, 0, none⟩) hgily).trans hciy, h⟩))
                have Hby := Lib.hid (Below.refl wy.heap.size wy)
                have Hfin := Lib.hid (fun (w' : World) (h : Below wy.heap.size wy w') => Hbw2.out.trans ((hby2.trans (h.mono hby2.size)).mono hz2))
                clear hwy HE2 hby2 hby5
                go_wp2_with fail
                go_region_held3 (fun w' => w'.cell? ⟨w.heap.size, 0, none⟩ = some (.slice A i c) ∧ w'.cell? ⟨gi, 0, none⟩ = some (.int .i64 (a : Int)) ∧ Below wy.heap.size wy w')
                  (first | exact HSy.out _ (by assumption) | exact HSy.out _ Hby.out.drew | exact HSy.out _ Hby.out)
                  (first
                    | (go_at_call 18; refine (HRy.out _ (by first | assumption | exact Hby.out.drew)).mono ?_; rintro e w7 ⟨v7, rfl, hn7, hb7⟩; have hbz7 := Hby.out.drew.trans hb7)
                    | (go_at_call 7; refine (equal_same w7 _ v7 w7.heap.size L (HL7.out w7 hbz7) (SlI.own (r := L) hn7) (by omega)).mono ?_; rintro e w8 ⟨rfl, q3, rfl⟩; have hbz8 := below_drewN hbz7 q3))
                all_goals
                  go_wp2_with fail
                  go_ret
                  exact ⟨rfl, Hfin.out _ hbz8⟩
        · obtain rfl : f = 1 := by omega
          have HS := Lib.hid (stuck_bad w2 _ rs Hrows2.out (by omega) (fun r hr => by have := Hrow.out r hr; omega) (by rw [Hck.out]; omega))
          have HF := Lib.hid (find_bad w2 _ rs Hrows2.out (by omega) (fun r hr => by have := Hrow.out r hr; omega) (by rw [Hck.out]; omega))
          have HO := Lib.hid (order_bad w2 _ rs Hrows2.out (by omega) (fun r hr => by have := Hrow.out r hr; omega) (by rw [Hck.out]; omega))
          have HC := Lib.hid (check_ring w2 _ _ rs Hrows2.out (by omega) (fun r hr => by have := Hrow.out r hr; omega))
          rw [Hck.out] at HS HF HO HC
          go_wp2_with fail
          refine HS.out.mono ?_
          rintro e w' ⟨rfl, rfl⟩
          clear HS
          go_wp2_with fail
          refine HF.out.mono ?_
          rintro e w' ⟨rfl, rfl⟩
          clear HF
          go_wp2_with fail
          refine HO.out.mono ?_
          rintro e w' ⟨rfl, rfl⟩
          clear HO
          go_wp2_with fail
          refine HC.out.mono ?_
          rintro e w' ⟨rfl, rfl⟩
          clear HC
          go_wp2_with fail
          go_ret
          exact ⟨rfl, Hbw2.out⟩
end Go.Proofs.Ytgmjeanoohmdlaa.ringTells
