/- (*Table).Check of a table that is as it should be. Conditions: those typed. -/
import Derived.Test.YtambngbkegnghaaTabCells
import Derived.Test.YtambngbkegnghaaTabEnds
namespace Go.Proofs.Ytambngbkegnghaa
open Go.RowKit Go.Gy
set_option linter.unusedVariables false
theorem own_sli {w : World} {base : Nat} {v : Value} {l : List Int} (h : w.ownsRow base 3 1 v l.length (l.map iv)) : SlI w w.heap.size v l := by
  obtain ⟨A, c, rfl, h1, _, h2⟩ := own_rd h
  exact ⟨A, l.length, c, rfl, rfl, h1, fun e => (own_none h e).2, h2⟩
theorem Safe.ring {st : Tab} (h : Safe st) {k : Nat} {y : Int × List Cell} (hy : st.2[k]? = some y) : ringF st y.1 200 [] (blockF st y.1 y.2 k) = false := by
  obtain ⟨rk, hrk⟩ := h.rank
  exact ring_none hrk _ _ _ (hrk k y hy)
theorem Safe.meet {st : Tab} (h : Safe st) {i j : Nat} {a b : List Cell} (hij : i ≠ j) (ha : st.1[i]? = some a) (hb : st.1[j]? = some b) : meetC a b = [] := by
  rw [List.eq_nil_iff_forall_not_mem]
  intro x hx
  obtain ⟨h1, h2⟩ := mem_meet.1 hx
  exact h.apart i j hij x (by rw [List.getD_eq_getElem?_getD, ha]; exact h1) (by rw [List.getD_eq_getElem?_getD, hb]; exact h2)
set_option maxRecDepth 100000 in
set_option maxHeartbeats 4000000 in
theorem check_tab (w : World) (B p : Nat) (st : Tab) (X : List (Value × List Cell)) (h : TabAt w B p st X) (hs : Safe st) :
    Calls Try.prog 22 #[.pointer (some ⟨p, 0, none⟩)] w (HasPost true w) := by
  obtain ⟨hb, vs, wv, wl, hx⟩ := id h
  obtain ⟨Aw, cw, rfl, hncw, hccw, hrdw⟩ := own_rd hx.row
  have p0 : w.cell? ⟨p, 0, none⟩ = some (.slice (some ⟨hb, 0, none⟩) vs.length vs.length) := hx.blk.cell 0 _ rfl
  have hvl : vs.length ≤ 4 := by rw [hx.hlen]; exact hs.fit.n4
  have hwl4 : wl.length ≤ 4 := by rw [hx.wlen]; exact hs.fit.few.1.2.1
  have HX := Lib.hid hx
  have HF := Lib.hid hs
  have HT := Lib.hid h
  have HH := Lib.hid hx.hlen
  have Hwl := Lib.hid hx.wlen
  have Hrd := Lib.hid hrdw
  have hpl := hx.lts.1
  have hhl := hx.lts.2.1
  clear h hs hx hrdw
  go_enter Try.func22, Try.ntmps22
  go_wp2_with fail
  go_loopw [14] (fun i wr => ∃ k : Nat, k ≤ vs.length ∧ i = .int .i64 k ∧ Below w.heap.size w wr) (fun i _ => vs.length - (intOf i).toNat)
  case atStart => exact ⟨0, Nat.zero_le _, rfl, Below.refl _ _⟩
  case round =>
    obtain ⟨k, hk, rfl, hbw⟩ := hrel
    by_cases hlt : k < vs.length
    · obtain ⟨u, hu⟩ : ∃ u, vs[k]? = some u := ⟨_, List.getElem?_eq_getElem hlt⟩
      obtain ⟨r, hr⟩ : ∃ r, st.1[k]? = some r := ⟨_, List.getElem?_eq_getElem (by have := HH.out; omega)⟩
      have hu1 := HX.out.has k u r hu hr
      obtain ⟨Au, nu, cu, rfl, hul, hu9⟩ := id hu1.1
      have hcu : wr.cell? ⟨hb, k, none⟩ = some (.slice Au nu cu) := (hbw.cell (p := ⟨hb, k, none⟩) hhl).trans (HX.out.hblk.cell k (.slice Au nu cu) (by simpa using hu))
      have pk : wr.cell? ⟨p, 0, none⟩ = some (.slice (some ⟨hb, 0, none⟩) vs.length vs.length) := (hbw.cell (p := ⟨p, 0, none⟩) hpl).trans p0
      have Hbw := Lib.hid hbw
      have Hu := Lib.hid hu1.1
      have Hr := Lib.hid hr
      have Hr4 := Lib.hid (HF.out.fit.few.1.2.2.1 r (List.mem_of_getElem? hr))
      clear hbw hu1 hr hu9 hul hu
      go_wp2_with (refine wpList_slice_to rfl 45 (.tmp 22) (.tmp 23) rfl (some ⟨hb, 0, none⟩) vs.length vs.length k rfl rfl rfl (fun w => rowsC_to (some ⟨hb, 0, none⟩) vs.length vs.length k hk w) ?_)
      obtain ⟨w0, rfl⟩ : ∃ w0, w0 = wr := ⟨_, rfl⟩
      go_loopw [26] (fun i wr => ∃ j : Nat, j ≤ k ∧ i = .int .i64 j ∧ Below w.heap.size w wr) (fun i _ => k - (intOf i).toNat)
      case atStart => exact ⟨0, Nat.zero_le _, rfl, Hbw.out⟩
      case round =>
        obtain ⟨j, hj, rfl, hbj⟩ := hrel
        by_cases hjk : j < k
        · obtain ⟨u2, hu2⟩ : ∃ u, vs[j]? = some u := ⟨_, List.getElem?_eq_getElem (by omega)⟩
          obtain ⟨r2, hr2⟩ : ∃ r, st.1[j]? = some r := ⟨_, List.getElem?_eq_getElem (by have := HH.out; omega)⟩
          have hu21 := HX.out.has j u2 r2 hu2 hr2
          obtain ⟨Au2, nu2, cu2, rfl, hul2, hu29⟩ := id hu21.1
          have hcu2 : wr.cell? ⟨hb, j, none⟩ = some (.slice Au2 nu2 cu2) := (hbj.cell (p := ⟨hb, j, none⟩) hhl).trans (HX.out.hblk.cell j (.slice Au2 nu2 cu2) (by simpa using hu2))
          have HM := Lib.hid (meet_any wr (.slice Au nu cu) (.slice Au2 nu2 cu2) r r2 ((Hu.out.below hbj).more hbj.size) ((hu21.1.below hbj).more hbj.size) (by have := Hr4.out; omega) (by have := HF.out.fit.few.1.2.2.1 r2 (List.mem_of_getElem? hr2); omega))
          have Hm := Lib.hid (HF.out.meet (show k ≠ j by omega) Hr.out hr2)
          rw [Hm.out] at HM
          have Hbj := Lib.hid hbj
          clear hbj hu21 hr2 hu29 hul2 hu2
          go_wp2_with fail
          refine HM.out.mono ?_
          rintro e w2 ⟨A2, n2, c2, rfl, hl2, hown2, hb2⟩
          obtain rfl : n2 = 0 := hl2.symm
          have Hb2 := Lib.hid (Hbj.out.trans (hb2.mono Hbj.out.size))
          clear hown2 hb2 hl2 HM
          go_wp2_with fail
          go_roundw
          case rel => exact ⟨j + 1, by omega, by go_num, Hb2.out⟩
          case measure => simp [intOf]; omega
        · obtain rfl : j = k := by omega
          have Hbj := Lib.hid hbj
          clear hbj
          go_wp2_with fail
          go_roundw
          case rel => exact ⟨j + 1, by omega, by go_num, Hbj.out⟩
          case measure => simp [intOf]; omega
    · obtain rfl : k = vs.length := by omega
      have Hbw := Lib.hid hbw
      have p1 : wr.cell? ⟨p, 1, none⟩ = some (.slice Aw wl.length cw) := (hbw.cell (p := ⟨p, 1, none⟩) hpl).trans (HX.out.blk.cell 1 _ rfl)
      clear hbw
      go_wp2_with fail
      obtain ⟨w0, rfl⟩ : ∃ w0, w0 = wr := ⟨_, rfl⟩
      go_loopw [42] (fun i wr => ∃ k : Nat, k ≤ wl.length ∧ i = .int .i64 k ∧ Below w.heap.size w wr) (fun i _ => wl.length - (intOf i).toNat)
      case atStart => exact ⟨0, Nat.zero_le _, rfl, Hbw.out⟩
      case round =>
        obtain ⟨k, hk, rfl, hbk⟩ := hrel
        have Hbk := Lib.hid hbk
        by_cases hlt : k < wl.length
        · obtain ⟨b, o, x, rfl, hbB, hxx, hcs⟩ := (Hrd.out.below hbk).elem encW_len rfl hlt
          obtain ⟨y, hy⟩ : ∃ y, st.2[k]? = some y := ⟨_, List.getElem?_eq_getElem (by rw [← Hwl.out]; exact hlt)⟩
          obtain ⟨hxy, hhd⟩ := HX.out.wts k x y hxx hy
          obtain ⟨a, u⟩ := x
          obtain ⟨a', cs⟩ := y
          simp only at hxy hhd
          subst hxy
          obtain ⟨Au, nu, cu, rfl, hul, hu9⟩ := id hhd.1
          have e0 : wr.cell? ⟨b, o + k * 2, none⟩ = some (.int .i64 a) := hcs 0 _ rfl
          have e1 : wr.cell? ⟨b, o + k * 2 + 1, none⟩ = some (.slice Au nu cu) := hcs 1 _ rfl
          have hbe : ∀ X, Below wr.heap.size wr (wr.alloc X) := fun X => (Below.refl _ _).alloc (Nat.le_refl _) _
          have HTA := Lib.hid (fun X' => ((HT.out.below hbk).below (hbe X')).below ((Below.refl _ _).drew))
          have HbA := Lib.hid (fun X' => ((hbk.trans ((hbe X').mono hbk.size)).drew))
          have HsA := Lib.hid (show ∀ X' : Obj, w.heap.size ≤ (wr.alloc X').drew.heap.size from fun X' => by have := (HbA.out X').size; exact this)
          have hcs4 : cs.length ≤ 400 := HF.out.fit.few.1.2.2.2 _ (List.mem_of_getElem? hy)
          have HBl := Lib.hid (fun X' => blockers_any (wr.alloc X').drew B p st X a (.slice Au nu cu) cs k (HTA.out X') HF.out.fit.few.1 (((((hhd.1.below hbk).more hbk.size).below (hbe X')).more (by simp)).below ((Below.refl _ _).drew)) (by omega) (by rw [← Hwl.out]; exact hk))
          have HL8 := Lib.hid (show (blockF st a cs k).length ≤ 8 from by
            have := blockF_len st a cs k
            have := HF.out.fit.few
            have := HF.out.fit.n4
            have := Hwl.out
            omega)
          have HRn := Lib.hid (HF.out.ring hy)
          have Hlt := Lib.hid hlt
          have q0 := (Blk.new wr 77 #[.int .i64 a, .slice Au nu cu]).cell 0 _ rfl
          have q1 := (Blk.new wr 77 #[.int .i64 a, .slice Au nu cu]).cell 1 _ rfl
          clear hbk hhd hcs hxx hbB hy hu9 hul hbe hcs4
          go_wp2_with fail
          refine wp_region_held_drew (S := fun w' => w'.cell? ⟨wr.heap.size, 0, none⟩ = some (.int .i64 a) ∧ w'.cell? ⟨wr.heap.size, 1, none⟩ = some (.slice Au nu cu)) (by kernel_rfl) ⟨q0, q1⟩ (fun hHeld => ?_)
          refine wpAnyH_take (i := 0) (v := ?_) rfl (by kernel_rfl) (by kernel_rfl) (by kernel_rfl) (fun _ _ _ h => h) (Or.inl ⟨by rfl, ?_⟩) (by assumption) ?_
          rotate_left
          · ((intro w' hSw; (try dsimp only at hSw); go_simp) <;> with_reducible rfl)
          refine wpAnyH_take (i := 1) (v := ?_) rfl (by kernel_rfl) (by kernel_rfl) (by kernel_rfl) (fun _ _ _ h => h) (Or.inl ⟨by rfl, ?_⟩) (by assumption) ?_
          rotate_left
          · ((intro w' hSw; (try dsimp only at hSw); go_simp) <;> with_reducible rfl)
          refine wpAnyH_take (i := 2) (v := ?_) rfl (by kernel_rfl) (by kernel_rfl) (by kernel_rfl) (fun _ _ _ h => h) (Or.inl ⟨by rfl, ?_⟩) (by assumption) ?_
          rotate_left
          · ((intro w' hSw; (try dsimp only at hSw); go_simp) <;> with_reducible rfl)
          refine wpAnyH_take (i := 3) (v := ?_) rfl (by kernel_rfl) (by kernel_rfl) (by kernel_rfl) (fun _ _ _ h => h) (Or.inl ⟨by rfl, ?_⟩) (by assumption) ?_
          rotate_left
          · ((intro w' hSw; (try dsimp only at hSw); go_simp) <;> with_reducible rfl)
          refine wpAnyH_take (i := 4) (v := ?_) rfl (by kernel_rfl) (by kernel_rfl) (by kernel_rfl) (fun _ _ _ h => h) (Or.inl ⟨by rfl, ?_⟩) (by assumption) ?_
          rotate_left
          · ((intro w' hSw; (try dsimp only at hSw); go_simp) <;> with_reducible rfl)
          refine wpAnyH_take (i := 5) (v := ?_) rfl (by kernel_rfl) (by kernel_rfl) (by kernel_rfl) (fun _ _ _ h => h) (Or.inl ⟨by rfl, ?_⟩) (by assumption) ?_
          rotate_left
          · ((intro w' hSw; (try dsimp only at hSw); go_simp) <;> with_reducible rfl)
          refine wpAnyH_take (i := 6) (v := ?_) rfl (by kernel_rfl) (by kernel_rfl) (by kernel_rfl) (fun _ _ _ h => h) (Or.inl ⟨by rfl, ?_⟩) (by assumption) ?_
          rotate_left
          · ((intro w' hSw; (try dsimp only at hSw); go_simp) <;> with_reducible rfl)
          refine wpAnyH_take (i := 7) (v := ?_) rfl (by kernel_rfl) (by kernel_rfl) (by kernel_rfl) (fun _ _ _ h => h) (Or.inl ⟨by rfl, ?_⟩) (by assumption) ?_
          rotate_left
          · ((intro w' hSw; (try dsimp only at hSw); go_simp) <;> with_reducible rfl)
          refine wpAnyH_take (i := 8) (v := ?_) rfl (by kernel_rfl) (by kernel_rfl) (by kernel_rfl) (fun _ _ _ h => h) (Or.inl ⟨by rfl, ?_⟩) (by assumption) ?_
          rotate_left
          · ((intro w' hSw; (try dsimp only at hSw); go_simp) <;> with_reducible rfl)
          try simp only [Act.put, List.setIfInBounds_toArray]
          refine wpAnyH_ready (rs := [9]) (by kernel_rfl) (by simp) ?_
          refine AllReadyH.cons rfl (fun K hK => ?_) AllReadyH.nil
          rw [if_pos (by rfl)]
          go_simp
          refine (HBl.out _).mono ?_
          rintro e w2 ⟨v2, rfl, hown2, hb2⟩
          have q0' := (hb2.cell (p := ⟨wr.heap.size, 0, none⟩) (by simp)).trans q0
          have q1' := (hb2.cell (p := ⟨wr.heap.size, 1, none⟩) (by simp)).trans q1
          have HT2 := Lib.hid ((HTA.out _).below hb2)
          have Hb2 := Lib.hid ((HbA.out _).trans (hb2.mono (HsA.out _)))
          have HR := Lib.hid (ring_any w2 B p st X a v2 (blockF st a cs k) HT2.out HF.out.fit.few.1 (own_sli hown2) HL8.out)
          clear hown2 hb2
          go_simp
          refine hK.out _ _ ⟨q0', q1'⟩ (fun hHeld => ?_)
          clear hK K
          try simp only [Act.put, List.setIfInBounds_toArray, List.set_cons_zero, List.set_cons_succ]
          refine wpAnyH_ready (rs := [10]) (by kernel_rfl) (by simp) ?_
          refine AllReadyH.cons rfl (fun K hK => ?_) AllReadyH.nil
          rw [if_pos (by rfl)]
          go_simp
          refine HR.out.mono ?_
          rintro e w3 ⟨rfl, hb3⟩
          have q0'' := (hb3.cell (p := ⟨wr.heap.size, 0, none⟩) (World.block_lt_of_cell? w2 _ q0')).trans q0'
          have q1'' := (hb3.cell (p := ⟨wr.heap.size, 1, none⟩) (World.block_lt_of_cell? w2 _ q1')).trans q1'
          have Hb3 := Lib.hid (Hb2.out.trans (hb3.mono Hb2.out.size))
          clear hb3
          go_simp
          refine hK.out _ _ ⟨q0'', q1''⟩ (fun hHeld => ?_)
          clear hK K
          try simp only [Act.put, List.setIfInBounds_toArray, List.set_cons_zero, List.set_cons_succ]
          refine wpAnyH_done (by kernel_rfl) ?_ _
          clear hHeld
          rw [HRn.out]
          clear q0 q1 q0' q1' q0'' q1'' e0 e1
          go_wp2_with fail
          go_roundw
          case rel => exact ⟨k + 1, Hlt.out, by go_num, Hb3.out⟩
          case measure => have := Hlt.out; simp [intOf]; omega
        · obtain rfl : k = wl.length := by omega
          clear hbk
          go_wp2_with fail
          go_ret
          exact ⟨rfl, Hbk.out⟩
end Go.Proofs.Ytambngbkegnghaa
