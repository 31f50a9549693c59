/- (*Table).Done, (*Table).Drop. Conditions: those typed. -/
import Derived.Test.YtambngbkegnghaaTabServe
namespace Go.Proofs.Ytambngbkegnghaa
open Go.RowKit Go.Gy
set_option linter.unusedVariables false
def TabPost (B p : Nat) (x : Nat × Tab) (X : List (Value × List Cell)) (w : World) (e : Ending) (w' : World) : Prop := e = .returned (.int .i64 (x.1 : Int)) ∧ TabAt w' B p x.2 X ∧ Below B w w'
theorem doneF_out {st : Tab} {arm : Int} {cells : List Cell} (h : arm < 0 ∨ (st.1.length : Int) ≤ arm) : doneF st arm cells = (1, st) := by
  unfold doneF
  rw [if_pos h]
theorem doneF_in {st : Tab} {k : Nat} {cells r : List Cell} (h : st.1[k]? = some r) : doneF st k cells = if cellsF cells ≠ 0 then (cellsF cells, st) else if withinC cells r = false then (4, st) else (0, serveF 40 (st.1.set k (minusC r cells), st.2) 0) := by
  have hk := (List.getElem?_eq_some_iff.1 h).1
  unfold doneF
  rw [if_neg (by omega), Int.toNat_natCast, List.getD_eq_getElem?_getD, h]
  rfl
set_option maxRecDepth 100000 in
set_option maxHeartbeats 4000000 in
theorem done_any (w : World) (B p : Nat) (st : Tab) (X : List (Value × List Cell)) (arm : Int) (v : Value) (cells : List Cell) (h : TabAt w B p st X) (hf : Fit st) (hv : SlC w w.heap.size v cells) (hcl : cells.length ≤ 100000) :
    Calls Try.prog 17 #[.pointer (some ⟨p, 0, none⟩), .int .i64 arm, v] w (TabPost B p (doneF st arm cells) X w) := by
  obtain ⟨hb, vs, wv, wl, hx⟩ := id h
  have hBs := h.base
  have hc0 := hx.blk.cell 0 _ rfl
  have hlen := hx.hlen
  by_cases h1 : arm < 0
  · have HP := Lib.hid (show TabPost B p (doneF st arm cells) X w (.returned (.int .i64 1)) w from by rw [doneF_out (.inl h1)]; exact ⟨rfl, h, Below.refl _ _⟩)
    clear h hf hv hx hlen
    go_enter Try.func17, Try.ntmps17
    go_wp2_with fail
    go_ret
    exact HP.out
  by_cases h2 : (vs.length : Int) ≤ arm
  · have HP := Lib.hid (show TabPost B p (doneF st arm cells) X w (.returned (.int .i64 1)) w from by rw [doneF_out (.inr (by rw [← hlen]; exact h2))]; exact ⟨rfl, h, Below.refl _ _⟩)
    clear h hf hv hx hlen
    go_enter Try.func17, Try.ntmps17
    go_wp2_with fail
    go_ret
    exact HP.out
  obtain ⟨k, rfl⟩ : ∃ k : Nat, arm = (k : Int) := ⟨arm.toNat, by omega⟩
  have hkv : k < vs.length := by omega
  obtain ⟨va, hva⟩ : ∃ va, vs[k]? = some va := ⟨_, List.getElem?_eq_getElem hkv⟩
  obtain ⟨r, hr⟩ : ∃ r, st.1[k]? = some r := ⟨_, List.getElem?_eq_getElem (by omega)⟩
  obtain ⟨A, n, c, rfl, hvl, _, _, hrd⟩ := id hv
  have HC := Lib.hid (grid_any w A n c cells hvl hrd)
  obtain ⟨q, hq⟩ : ∃ q, q = cellsF cells := ⟨_, rfl⟩
  rw [← hq] at HC
  have HD := Lib.hid (doneF_in (cells := cells) hr)
  rw [← hq] at HD
  have HX := Lib.hid hx
  have HF := Lib.hid hf
  have HV := Lib.hid hv
  have Hr := Lib.hid hr
  have Hq := Lib.hid hq
  have HT := Lib.hid h
  have Hlen := Lib.hid hlen
  clear h hf hv hx hvl hrd hr hq hlen
  go_enter Try.func17, Try.ntmps17
  go_wp2_with fail
  refine HC.out.mono ?_
  rintro e w1 ⟨rfl, hb1⟩
  have HT1 := Lib.hid (HT.out.below hb1)
  have hx1 := HX.out.below hb1
  have HX1 := Lib.hid hx1
  have HV1 := Lib.hid ((HV.out.below hb1).more hb1.size)
  have Hb1 := Lib.hid (hb1.mono hBs)
  by_cases hq0 : q = 0
  · subst hq0
    have p0 : w1.cell? ⟨p, 0, none⟩ = some (.slice (some ⟨hb, 0, none⟩) vs.length vs.length) := hx1.blk.cell 0 _ rfl
    have hk := hx1.has k va r hva Hr.out
    obtain ⟨Ak, nk, ck, rfl, hkl, hkrest⟩ := id hk.1
    have q2 := hx1.hblk.cell k (.slice Ak nk ck) (by simpa using hva)
    have hc4 := cellsF_len Hq.out.symm
    have hr4 := HF.out.few.1.2.2.1 r (List.mem_of_getElem? Hr.out)
    have Hc4 := Lib.hid hc4
    have Hr4 := Lib.hid hr4
    have HW := Lib.hid (within_any w1 (.slice A n c) (.slice Ak nk ck) cells r HV1.out hk.1 (by omega) (by omega))
    clear hkrest hk hx1 hb1 hc0 hc4 hr4 HC
    go_wp2_with fail
    refine HW.out.mono ?_
    rintro e w2 ⟨rfl, hb2⟩
    have HT2 := Lib.hid (HT1.out.below hb2)
    have hx2 := HX1.out.below hb2
    have HX2 := Lib.hid hx2
    have HV2 := Lib.hid ((HV1.out.below hb2).more hb2.size)
    have Hb2 := Lib.hid (Hb1.out.trans (hb2.mono (by have := Hb1.out.size; omega)))
    have hk := hx2.has k _ r hva Hr.out
    clear p0 q2
    have p0 : w2.cell? ⟨p, 0, none⟩ = some (.slice (some ⟨hb, 0, none⟩) vs.length vs.length) := hx2.blk.cell 0 _ rfl
    have q2 := hx2.hblk.cell k (.slice Ak nk ck) (by simpa using hva)
    obtain ⟨bb, hbb⟩ : ∃ bb, bb = withinC cells r := ⟨_, rfl⟩
    rw [← hbb] at HD ⊢
    have Hbb := Lib.hid hbb
    clear hbb hb2 HW
    cases bb
    · have HP := Lib.hid (show TabPost B p (doneF st k cells) X w (.returned (.int .i64 4)) w2 from by rw [HD.out]; exact ⟨rfl, HT2.out, Hb2.out⟩)
      clear hk hx2
      go_wp2_with fail
      go_ret
      exact HP.out
    · have HJ := Lib.hid (minus_any w2.drew (.slice Ak nk ck) (.slice A n c) r cells hk.1 HV2.out (by have := Hr4.out; omega) (by have := Hc4.out; omega))
      have hf2 := hx2.hblk.free k
      clear hk hx2
      go_wp2_with fail
      refine wp_region_held_drew (S := fun w' => w'.cell? ⟨p, 0, none⟩ = some (.slice (some ⟨hb, 0, none⟩) vs.length vs.length) ∧ True) (by kernel_rfl) ⟨p0, trivial⟩ (fun hHeld => ?_)
      refine wpAnyH_take (i := 0) (v := ?_) rfl (by kernel_rfl) (by kernel_rfl) (by kernel_rfl) (fun _ _ _ h => h) (Or.inl ⟨by rfl, ?_⟩) (by assumption) ?_
      rotate_left
      · ((intro w' hSw; (try dsimp only at hSw); go_simp) <;> with_reducible rfl)
      refine wpAnyH_take (i := 1) (v := ?_) rfl (by kernel_rfl) (by kernel_rfl) (by kernel_rfl) (fun _ _ _ h => h) (Or.inl ⟨by rfl, ?_⟩) (by assumption) ?_
      rotate_left
      · ((intro w' hSw; (try dsimp only at hSw); go_simp) <;> with_reducible rfl)
      refine wpAnyH_take (i := 2) (v := ?_) rfl (by kernel_rfl) (by kernel_rfl) (by kernel_rfl) (fun _ _ _ h => h) (Or.inl ⟨by rfl, ?_⟩) (by assumption) ?_
      rotate_left
      · ((intro w' hSw; (try dsimp only at hSw); go_simp) <;> with_reducible rfl)
      refine wpAnyH_take (i := 3) (v := ?_) rfl (by kernel_rfl) (by kernel_rfl) (by kernel_rfl) (fun _ _ _ h => h) (Or.inl ⟨by rfl, ?_⟩) (by assumption) ?_
      rotate_left
      · ((intro w' hSw; (try dsimp only at hSw); go_simp) <;> with_reducible rfl)
      refine wpAnyH_take (i := 4) (v := ?_) rfl (by kernel_rfl) (by kernel_rfl) (by kernel_rfl) (fun _ _ _ h => h) (Or.inl ⟨by rfl, ?_⟩) (by assumption) ?_
      rotate_left
      · ((intro w' hSw; (try dsimp only at hSw); go_simp) <;> with_reducible rfl)
      refine wpAnyH_take (i := 5) (v := ?_) rfl (by kernel_rfl) (by kernel_rfl) (by kernel_rfl) (fun _ _ _ h => h) (Or.inl ⟨by rfl, ?_⟩) (by assumption) ?_
      rotate_left
      · ((intro w' hSw; (try dsimp only at hSw); go_simp) <;> with_reducible rfl)
      refine wpAnyH_take (i := 6) (v := ?_) rfl (by kernel_rfl) (by kernel_rfl) (by kernel_rfl) (fun _ _ _ h => h) (Or.inl ⟨by rfl, ?_⟩) (by assumption) ?_
      rotate_left
      · ((intro w' hSw; (try dsimp only at hSw); go_simp) <;> with_reducible rfl)
      refine wpAnyH_take (i := 7) (v := ?_) rfl (by kernel_rfl) (by kernel_rfl) (by kernel_rfl) (fun _ _ _ h => h) (Or.inl ⟨by rfl, ?_⟩) (by assumption) ?_
      rotate_left
      · ((intro w' hSw; (try dsimp only at hSw); go_simp) <;> with_reducible rfl)
      refine wpAnyH_take (i := 8) (v := ?_) rfl (by kernel_rfl) (by kernel_rfl) (by kernel_rfl) (fun _ _ _ h => h) (Or.inl ⟨by rfl, ?_⟩) (by assumption) ?_
      rotate_left
      · ((intro w' hSw; (try dsimp only at hSw); go_simp) <;> with_reducible rfl)
      refine wpAnyH_take (i := 9) (v := ?_) rfl (by kernel_rfl) (by kernel_rfl) (by kernel_rfl) (fun _ _ _ h => h) (Or.inl ⟨by rfl, ?_⟩) (by assumption) ?_
      rotate_left
      · ((intro w' hSw; (try dsimp only at hSw); go_simp) <;> with_reducible rfl)
      refine wpAnyH_take (i := 10) (v := ?_) rfl (by kernel_rfl) (by kernel_rfl) (by kernel_rfl) (fun _ _ _ h => h) (Or.inl ⟨by rfl, ?_⟩) (by assumption) ?_
      rotate_left
      · ((intro w' hSw; (try dsimp only at hSw); go_simp) <;> with_reducible rfl)
      refine wpAnyH_take (i := 12) (v := ?_) rfl (by kernel_rfl) (by kernel_rfl) (by kernel_rfl) (fun _ _ _ h => h) (Or.inl ⟨by rfl, ?_⟩) (by assumption) ?_
      rotate_left
      · ((intro w' hSw; (try dsimp only at hSw); go_simp) <;> with_reducible rfl)
      try simp only [Act.put, List.setIfInBounds_toArray]
      refine wpAnyH_ready (rs := [11]) (by kernel_rfl) (by simp) ?_
      refine AllReadyH.cons rfl (fun K hK => ?_) AllReadyH.nil
      rw [if_pos (by rfl)]
      have q2d : w2.drew.cell? ⟨hb, k, none⟩ = some (.slice Ak nk ck) := q2
      go_simp
      refine hK.out _ _ hHeld (fun hHeld => ?_)
      clear hK K
      try simp only [Act.put, List.setIfInBounds_toArray, List.set_cons_zero, List.set_cons_succ]
      refine wpAnyH_ready (rs := [13]) (by kernel_rfl) (by simp) ?_
      refine AllReadyH.cons rfl (fun K hK => ?_) AllReadyH.nil
      rw [if_pos (by rfl)]
      go_simp
      refine HJ.out.mono ?_
      rintro e w3 ⟨A3, n3, c3, rfl, hl3, hown3, hb3⟩
      have hb3' : Below w2.heap.size w2 w3 := ((Below.refl _ _).drew).trans hb3
      have p0' : w3.cell? ⟨p, 0, none⟩ = some (.slice (some ⟨hb, 0, none⟩) vs.length vs.length) := (hb3'.cell (p := ⟨p, 0, none⟩) HX2.out.blk.lt).trans p0
      go_simp
      refine hK.out _ _ ⟨p0', trivial⟩ (fun hHeld => ?_)
      clear hK K
      try simp only [Act.put, List.setIfInBounds_toArray, List.set_cons_zero, List.set_cons_succ]
      refine wpAnyH_take (i := 14) (v := ?_) rfl (by kernel_rfl) (by kernel_rfl) (by kernel_rfl) (fun _ _ _ h => h) (Or.inl ⟨by rfl, ?_⟩) (by assumption) ?_
      rotate_left
      · ((intro w' hSw; (try dsimp only at hSw); go_simp) <;> with_reducible rfl)
      try simp only [Act.put, List.setIfInBounds_toArray]
      have hX3 := HX2.out.below hb3'
      have q2' := hX3.hblk.cell k (.slice Ak nk ck) (by simpa using hva)
      have hf3 := hX3.hblk.free k
      have HX3 := Lib.hid hX3
      have Hown3 := Lib.hid hown3
      have Hb3 := Lib.hid hb3'
      clear hX3 hown3 hb3 hb3'
      refine wpAnyH_ready (rs := [15]) (by kernel_rfl) (by simp) ?_
      refine AllReadyH.cons rfl (fun K hK => ?_) AllReadyH.nil
      rw [if_pos (by rfl)]
      go_simp
      refine hK.out _ _ ⟨(World.cell?_setCell_far _ _ _ _ (fun e => HX2.out.ne.1 e.symm)).trans p0', trivial⟩ (fun hHeld => ?_)
      clear hK K
      refine wpAnyH_done (by kernel_rfl) ?_ _
      clear hHeld
      obtain ⟨l1, l2, l3⟩ := HX2.out.lts
      have HX4 := Lib.hid (HX3.out.setHas (a := k) (r := minusC r cells) (Held.fresh l1 l2 l3 Hown3.out))
      have hb4 : Below B w (w3.setCell ⟨hb, k, none⟩ (.slice A3 n3 c3)) := (Hb2.out.trans (Hb3.out.mono (by have := Hb2.out.size; omega))).setCell HX2.out.hB _
      have Hb4 := Lib.hid hb4
      obtain ⟨w4, hw4⟩ : ∃ w4, w4 = w3.setCell ⟨hb, k, none⟩ (.slice A3 n3 c3) := ⟨_, rfl⟩
      rw [← hw4] at HX4 Hb4 ⊢
      clear hw4 hb4 p0 p0' q2 q2' hf2 hf3 HJ l1 l2 l3
      have hfit : Fit (st.1.set k (minusC r cells), st.2) := HF.out.less (SortC.filter (sorted_sortC _) _) (fun x hx => by rw [List.getD_eq_getElem?_getD, Hr.out]; exact (mem_minus.1 hx).1)
      have HS := Lib.hid (serve_any w4 B p _ X ⟨_, _, _, _, HX4.out⟩ hfit)
      have HQ := Lib.hid (show ∀ e w', DonePost B p (serveF 40 (st.1.set k (minusC r cells), st.2) 0) X w4 e w' → e = .returned (.tuple #[]) ∧ TabPost B p (doneF st k cells) X w (.returned (.int .i64 0)) w' from fun e w' ⟨h1, h2, h3⟩ => ⟨h1, by rw [HD.out]; exact ⟨rfl, h2, Hb4.out.trans h3⟩⟩)
      clear hfit
      go_wp2_with fail
      refine HS.out.mono ?_
      intro e w5 hp
      obtain ⟨rfl, hq5⟩ := HQ.out e w5 hp
      have HP := Lib.hid hq5
      clear hp hq5 HS
      go_wp2_with fail
      go_ret
      exact HP.out
  · have hq1 : ¬ (q : Int) = 0 := by omega
    have hq2 : ((q : Int) == 0) = false := by simpa using hq1
    have HP := Lib.hid (show TabPost B p (doneF st k cells) X w (.returned (.int .i64 (q : Int))) w1 from by rw [HD.out, if_pos hq0]; exact ⟨rfl, HT1.out, Hb1.out⟩)
    clear hb1 hx1 HC
    go_wp2_with fail
    go_ret
    exact HP.out
end Go.Proofs.Ytambngbkegnghaa
