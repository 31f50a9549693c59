/- (*Table).serve. Conditions: those typed. -/
import Derived.Test.YtambngbkegnghaaTabInv
import Derived.Deep.RegionLaw
import Derived.Deep.RegionHeld3
namespace Go.Proofs.Ytambngbkegnghaa
open Go.RowKit Go.Gy
set_option linter.unusedVariables false
/-- t.waits = a row that is near the old one -/
theorem TabX.setWaits {w w1 : World} {B p : Nat} {st : Tab} {X : List (Value × List Cell)} {hb : Nat} {vs : List Value} {wv wv' : Value} {wl wl' : List (Int × Value)} {ws' : List (Int × List Cell)} (h : TabX w B p st X hb vs wv wl)
    (hz : w.heap.size ≤ w1.heap.size) (hg : ∀ b, b < w.heap.size → wv.ownBlock ≠ some b → w1.heap[b]? = w.heap[b]?) (hn : Near w wv wv') (hrow : w1.ownsRow B 77 2 wv' wl'.length (wl'.flatMap encW)) (hlen : wl'.length = ws'.length)
    (hx : ∀ (i : Nat) (x : Int × Value) (y : Int × List Cell), wl'[i]? = some x → ws'[i]? = some y → x.1 = y.1 ∧ Held w p hb wv x.2 y.2) : TabX (w1.setCell ⟨p, 1, none⟩ wv') B p (st.1, ws') X hb vs wv' wl' := by
  obtain ⟨h1, h2⟩ := h.ne
  obtain ⟨l1, l2, l3⟩ := h.lts
  have hk : ∀ b, b < w.heap.size → b ≠ p → b ≠ hb → wv.ownBlock ≠ some b → (w1.setCell ⟨p, 1, none⟩ wv').heap[b]? = w.heap[b]? := fun b hb e _ e2 => (Below.heap_setCell w1 ⟨p, 1, none⟩ wv' b e).trans (hg b hb e2)
  have hw : ∀ {v' r'}, Held w p hb wv v' r' → Held (w1.setCell ⟨p, 1, none⟩ wv') p hb wv' v' r' := fun hx => hx.off (by simp; omega) hk hn
  have hbp : Blk w1 p 75 #[.slice (some ⟨hb, 0, none⟩) vs.length vs.length, wv] := (hg p l1 (fun e => (h2 p e).1 rfl)).trans h.blk
  have hbh : Blk w1 hb 24 vs.toArray := (hg hb l2 (fun e => (h2 hb e).2 rfl)).trans h.hblk
  refine ⟨h.pB, h.hB, ?_, hbh.far (p := ⟨p, 1, none⟩) (fun e => h1 e.symm) wv', ?_, h.hlen, fun i v r e1 e2 => hw (h.has i v r e1 e2), hlen, fun i x y e1 e2 => ⟨(hx i x y e1 e2).1, hw (hx i x y e1 e2).2⟩, fun x hx => hw (h.ext x hx)⟩
  · have := hbp.set 1 wv'
    simpa using this
  · refine hrow.kept (row := some p) ⟨rfl, rfl, rfl, by simp, fun b hb' hne => Below.heap_setCell w1 ⟨p, 1, none⟩ wv' b (fun e => hne (by rw [e]))⟩ ?_
    cases hwv : wv'.ownBlock with
    | none => exact .inl rfl
    | some g =>
      refine .inr (fun e => ?_)
      injection e with e
      subst e
      rcases hn g hwv with h6 | h6
      · exact (h2 g h6).1 rfl
      · omega
def ServeRel (w : World) (B p : Nat) (st : Tab) (X : List (Value × List Cell)) (f : Nat) (s : Value) (wr : World) : Prop := ∃ (st' : Tab) (i : Nat), s = .int .i64 (i : Int) ∧ i ≤ st'.2.length ∧ TabAt wr B p st' X ∧ Fit st' ∧ serveF f st' i = serveF 40 st 0 ∧ st'.2.length * 6 + (st'.2.length - i) < f ∧ Below B w wr
theorem ServeRel.start {w : World} {B p : Nat} {st : Tab} {X : List (Value × List Cell)} (h : TabAt w B p st X) (hf : Fit st) : ServeRel w B p st X 40 (.int .i64 0) w :=
  ⟨st, 0, rfl, Nat.zero_le _, h, hf, rfl, by have := hf.few.1.2.1; omega, Below.refl _ _⟩
def DonePost (B p : Nat) (st : Tab) (X : List (Value × List Cell)) (w : World) (e : Ending) (w' : World) : Prop := e = .returned (.tuple #[]) ∧ TabAt w' B p st X ∧ Below B w w'
theorem own_off {w : World} {base e size n b o c : Nat} {N : Nat} {xs : List Value} (h : w.ownsRow base e size (.slice (some ⟨b, o, none⟩) n c) N xs) : o = 0 := by
  obtain ⟨_, ⟨h, _⟩ | ⟨g', cap, cur, h, _⟩⟩ := h
  · cases h
  · injection h with h
    injection h with h
    injection h with _ h
theorem TabAt.base {w : World} {B p : Nat} {st : Tab} {X : List (Value × List Cell)} (h : TabAt w B p st X) : B ≤ w.heap.size := by
  obtain ⟨hb, vs, wv, wl, h⟩ := h
  have := h.pB
  have := h.lts.1
  omega
set_option maxRecDepth 100000 in
set_option maxHeartbeats 4000000 in
theorem serve_any (w : World) (B p : Nat) (st : Tab) (X : List (Value × List Cell)) (h : TabAt w B p st X) (hf : Fit st) :
    Calls Try.prog 48 #[.pointer (some ⟨p, 0, none⟩)] w (DonePost B p (serveF 40 st 0) X w) := by
  have HS := Lib.hid (ServeRel.start h hf)
  clear h hf
  go_enter Try.func48, Try.ntmps48
  go_wp2_with fail
  go_loopg [2] 40 (fun f s wr => ServeRel w B p st X f s wr)
  case atStart => exact HS.out
  case round =>
    obtain ⟨st', i, rfl, hil, hT, hF, hsv, hfu, hbw⟩ := hrel
    obtain ⟨hb, vs, wv, wl, hx⟩ := id hT
    have hfew := hF.few
    have hwl := hx.wlen
    have hBs := hT.base
    obtain ⟨Aw, cw, rfl, hncw, hccw, hrdw⟩ := own_rd hx.row
    have hc0 := hx.blk.cell 0 _ rfl
    have hc1 := hx.blk.cell 1 _ rfl
    by_cases hlt : i < wl.length
    · obtain ⟨b, o, x, rfl, hbB, hxx, hcs⟩ := hrdw.elem encW_len rfl hlt
      obtain ⟨y, hy⟩ : ∃ y, st'.2[i]? = some y := ⟨_, List.getElem?_eq_getElem (by omega)⟩
      obtain rfl : o = 0 := own_off hx.row
      obtain ⟨hxy, hhd⟩ := hx.wts i x y hxx hy
      obtain ⟨a, u⟩ := x
      obtain ⟨a', cs⟩ := y
      simp only at hxy hhd
      subst hxy
      obtain ⟨g1, g2, g3, g4⟩ := hF.wts _ (List.mem_of_getElem? hy)
      simp only at g1 g2 g3 g4
      obtain ⟨k, rfl⟩ : ∃ k : Nat, a = (k : Int) := ⟨a.toNat, by omega⟩
      obtain ⟨Au, nu, cu, rfl, hul, hurest⟩ := id hhd.1
      have e0 : wr.cell? ⟨b, i * 2, none⟩ = some (.int .i64 k) := by have h := hcs 0 _ rfl; rw [Nat.zero_add] at h; exact h
      have e1 : wr.cell? ⟨b, i * 2 + 1, none⟩ = some (.slice Au nu cu) := by have h := hcs 1 _ rfl; rw [Nat.zero_add] at h; exact h
      have hal : ∀ X, Below wr.heap.size wr (wr.alloc X) := fun X => (Below.refl _ _).alloc (Nat.le_refl _) _
      have HX := Lib.hid hx
      have HBl := Lib.hid (fun X' => blockers_any (wr.alloc X') B p st' X k (.slice Au nu cu) cs i (hT.below (hal _)) hfew.1 ((hhd.1.below (hal X')).more (by simp)) (by have := cellsF_len g3; omega) (by omega))
      have HBox := Lib.hid (Blk.new wr 77 #[.int .i64 k, .slice Au nu cu])
      have Hal := Lib.hid hal
      have hi4 : i ≤ 4 := by have := hfew.1.2.1; omega
      have Hy := Lib.hid hy
      have Hhd := Lib.hid hhd
      have HF := Lib.hid hF
      have HT := Lib.hid hT
      have Hg := Lib.hid (And.intro g2 (And.intro g3 g4))
      have Hsv := Lib.hid hsv
      have Hfu := Lib.hid hfu
      have Hbw := Lib.hid hbw
      have Hwl := Lib.hid hwl
      have Hil := Lib.hid hil
      clear hx hrdw hcs hxx hy hhd hurest hul hal g1 g2 g3 g4 hT hF hsv hfu hbw hwl hil hfew hbB
      go_wp2_with fail
      refine (HBl.out _).mono ?_
      rintro e w2 ⟨v2, rfl, hown2, hb2⟩
      have hbe := (Hal.out (.cells #[.int .i64 (k : Int), .slice Au nu cu] 77)).trans (hb2.mono (by simp))
      have Hb2 := Lib.hid (Hbw.out.trans (hbe.mono hBs))
      have HT2 := Lib.hid (HT.out.below hbe)
      have hX2 := HX.out.below hbe
      have hq2 := Hhd.out.below hbe
      have HX2 := Lib.hid hX2
      have hB2 := HBox.out.below hb2 (by simp)
      have hz2 : wr.heap.size < w2.heap.size := by have := hb2.size; simp at this; omega
      obtain ⟨A2, c2, rfl, _, _, _⟩ := own_rd hown2
      obtain ⟨nb, hnb⟩ : ∃ nb, nb = (blockF st' k cs i).length := ⟨_, rfl⟩
      rw [← hnb]
      have Hnb := Lib.hid hnb
      clear hown2 hb2 hbe hnb e0 e1 hc0 hc1
      by_cases h0 : nb = 0
      · subst h0
        have hbl : blockF st' k cs i = [] := List.eq_nil_of_length_eq_zero Hnb.out.symm
        have Hbl := Lib.hid hbl
        have p0 : w2.cell? ⟨p, 0, none⟩ = some (.slice (some ⟨hb, 0, none⟩) vs.length vs.length) := hX2.blk.cell 0 _ rfl
        have q0 : w2.cell? ⟨wr.heap.size, 0, none⟩ = some (.int .i64 (k : Int)) := hB2.cell 0 _ rfl
        have q1 : w2.cell? ⟨wr.heap.size, 1, none⟩ = some (.slice Au nu cu) := hB2.cell 1 _ rfl
        obtain ⟨va, hva⟩ : ∃ va, vs[k]? = some va := ⟨_, List.getElem?_eq_getElem (by have := HX.out.hlen; have := Hg.out.1; omega)⟩
        obtain ⟨r, hr⟩ : ∃ r, st'.1[k]? = some r := ⟨_, List.getElem?_eq_getElem (by have := Hg.out.1; omega)⟩
        have hk := hX2.has k va r hva hr
        have hkv : k < vs.length := (List.getElem?_eq_some_iff.1 hva).1
        obtain ⟨Ak, nk, ck, rfl, hkl, hkrest⟩ := id hk.1
        have q2 := hX2.hblk.cell k (.slice Ak nk ck) (by simpa using hva)
        have hf2 := hX2.hblk.free k
        have HJ := Lib.hid (join_any w2.drew (.slice Ak nk ck) (.slice Au nu cu) r cs hk.1 (hq2.1) (by have := HF.out.few.1.2.2.1 r (List.mem_of_getElem? hr); have := cellsF_len Hg.out.2.1; omega))
        clear hbl hkrest hX2 hB2 hk
        go_wp2_with fail
        refine wp_region_held_drew (S := fun w' => w'.cell? ⟨p, 0, none⟩ = some (.slice (some ⟨hb, 0, none⟩) vs.length vs.length) ∧ w'.cell? ⟨wr.heap.size, 0, none⟩ = some (.int .i64 (k : Int)) ∧ w'.cell? ⟨wr.heap.size, 1, none⟩ = some (.slice Au nu cu)) (by kernel_rfl) ⟨p0, q0, q1⟩ (fun hHeld => ?_)
        refine wpAnyH_take (i := 0) (v := ?_) rfl (by kernel_rfl) (by kernel_rfl) (by kernel_rfl) (fun _ _ _ h => h) (Or.inl ⟨by rfl, ?_⟩) (by assumption) ?_
        rotate_left
        · ((intro w' hSw; (try dsimp only at hSw); go_simp) <;> with_reducible rfl)
        refine wpAnyH_take (i := 1) (v := ?_) rfl (by kernel_rfl) (by kernel_rfl) (by kernel_rfl) (fun _ _ _ h => h) (Or.inl ⟨by rfl, ?_⟩) (by assumption) ?_
        rotate_left
        · ((intro w' hSw; (try dsimp only at hSw); go_simp) <;> with_reducible rfl)
        refine wpAnyH_take (i := 2) (v := ?_) rfl (by kernel_rfl) (by kernel_rfl) (by kernel_rfl) (fun _ _ _ h => h) (Or.inl ⟨by rfl, ?_⟩) (by assumption) ?_
        rotate_left
        · ((intro w' hSw; (try dsimp only at hSw); go_simp) <;> with_reducible rfl)
        refine wpAnyH_take (i := 3) (v := ?_) rfl (by kernel_rfl) (by kernel_rfl) (by kernel_rfl) (fun _ _ _ h => h) (Or.inl ⟨by rfl, ?_⟩) (by assumption) ?_
        rotate_left
        · ((intro w' hSw; (try dsimp only at hSw); go_simp) <;> with_reducible rfl)
        refine wpAnyH_take (i := 4) (v := ?_) rfl (by kernel_rfl) (by kernel_rfl) (by kernel_rfl) (fun _ _ _ h => h) (Or.inl ⟨by rfl, ?_⟩) (by assumption) ?_
        rotate_left
        · ((intro w' hSw; (try dsimp only at hSw); go_simp) <;> with_reducible rfl)
        refine wpAnyH_take (i := 5) (v := ?_) rfl (by kernel_rfl) (by kernel_rfl) (by kernel_rfl) (fun _ _ _ h => h) (Or.inl ⟨by rfl, ?_⟩) (by assumption) ?_
        rotate_left
        · ((intro w' hSw; (try dsimp only at hSw); go_simp) <;> with_reducible rfl)
        refine wpAnyH_take (i := 6) (v := ?_) rfl (by kernel_rfl) (by kernel_rfl) (by kernel_rfl) (fun _ _ _ h => h) (Or.inl ⟨by rfl, ?_⟩) (by assumption) ?_
        rotate_left
        · ((intro w' hSw; (try dsimp only at hSw); go_simp) <;> with_reducible rfl)
        refine wpAnyH_take (i := 7) (v := ?_) rfl (by kernel_rfl) (by kernel_rfl) (by kernel_rfl) (fun _ _ _ h => h) (Or.inl ⟨by rfl, ?_⟩) (by assumption) ?_
        rotate_left
        · ((intro w' hSw; (try dsimp only at hSw); go_simp) <;> with_reducible rfl)
        refine wpAnyH_take (i := 8) (v := ?_) rfl (by kernel_rfl) (by kernel_rfl) (by kernel_rfl) (fun _ _ _ h => h) (Or.inl ⟨by rfl, ?_⟩) (by assumption) ?_
        rotate_left
        · ((intro w' hSw; (try dsimp only at hSw); go_simp) <;> with_reducible rfl)
        refine wpAnyH_take (i := 9) (v := ?_) rfl (by kernel_rfl) (by kernel_rfl) (by kernel_rfl) (fun _ _ _ h => h) (Or.inl ⟨by rfl, ?_⟩) (by assumption) ?_
        rotate_left
        · ((intro w' hSw; (try dsimp only at hSw); go_simp) <;> with_reducible rfl)
        refine wpAnyH_take (i := 10) (v := ?_) rfl (by kernel_rfl) (by kernel_rfl) (by kernel_rfl) (fun _ _ _ h => h) (Or.inl ⟨by rfl, ?_⟩) (by assumption) ?_
        rotate_left
        · ((intro w' hSw; (try dsimp only at hSw); go_simp) <;> with_reducible rfl)
        refine wpAnyH_take (i := 11) (v := ?_) rfl (by kernel_rfl) (by kernel_rfl) (by kernel_rfl) (fun _ _ _ h => h) (Or.inl ⟨by rfl, ?_⟩) (by assumption) ?_
        rotate_left
        · ((intro w' hSw; (try dsimp only at hSw); go_simp) <;> with_reducible rfl)
        refine wpAnyH_take (i := 12) (v := ?_) rfl (by kernel_rfl) (by kernel_rfl) (by kernel_rfl) (fun _ _ _ h => h) (Or.inl ⟨by rfl, ?_⟩) (by assumption) ?_
        rotate_left
        · ((intro w' hSw; (try dsimp only at hSw); go_simp) <;> with_reducible rfl)
        refine wpAnyH_take (i := 14) (v := ?_) rfl (by kernel_rfl) (by kernel_rfl) (by kernel_rfl) (fun _ _ _ h => h) (Or.inl ⟨by rfl, ?_⟩) (by assumption) ?_
        rotate_left
        · ((intro w' hSw; (try dsimp only at hSw); go_simp) <;> with_reducible rfl)
        refine wpAnyH_take (i := 15) (v := ?_) rfl (by kernel_rfl) (by kernel_rfl) (by kernel_rfl) (fun _ _ _ h => h) (Or.inl ⟨by rfl, ?_⟩) (by assumption) ?_
        rotate_left
        · ((intro w' hSw; (try dsimp only at hSw); go_simp) <;> with_reducible rfl)
        try simp only [Act.put, List.setIfInBounds_toArray]
        refine wpAnyH_ready (rs := [13]) (by kernel_rfl) (by simp) ?_
        refine AllReadyH.cons rfl (fun K hK => ?_) AllReadyH.nil
        rw [if_pos (by rfl)]
        have q2d : w2.drew.cell? ⟨hb, k, none⟩ = some (.slice Ak nk ck) := q2
        go_simp
        refine hK.out _ _ hHeld (fun hHeld => ?_)
        clear hK K
        try simp only [Act.put, List.setIfInBounds_toArray, List.set_cons_zero, List.set_cons_succ]
        refine wpAnyH_ready (rs := [16]) (by kernel_rfl) (by simp) ?_
        refine AllReadyH.cons rfl (fun K hK => ?_) AllReadyH.nil
        rw [if_pos (by rfl)]
        go_simp
        refine HJ.out.mono ?_
        rintro e w3 ⟨A3, n3, c3, rfl, hl3, hown3, hb3⟩
        have hb3' : Below w2.heap.size w2 w3 := ((Below.refl _ _).drew).trans hb3
        have p0' : w3.cell? ⟨p, 0, none⟩ = some (.slice (some ⟨hb, 0, none⟩) vs.length vs.length) := (hb3'.cell (p := ⟨p, 0, none⟩) HX2.out.blk.lt).trans p0
        have q0' : w3.cell? ⟨wr.heap.size, 0, none⟩ = some (.int .i64 (k : Int)) := (hb3'.cell (p := ⟨wr.heap.size, 0, none⟩) hz2).trans q0
        have q1' : w3.cell? ⟨wr.heap.size, 1, none⟩ = some (.slice Au nu cu) := (hb3'.cell (p := ⟨wr.heap.size, 1, none⟩) hz2).trans q1
        go_simp
        refine hK.out _ _ ⟨p0', q0', q1'⟩ (fun hHeld => ?_)
        clear hK K
        try simp only [Act.put, List.setIfInBounds_toArray, List.set_cons_zero, List.set_cons_succ]
        refine wpAnyH_take (i := 17) (v := ?_) rfl (by kernel_rfl) (by kernel_rfl) (by kernel_rfl) (fun _ _ _ h => h) (Or.inl ⟨by rfl, ?_⟩) (by assumption) ?_
        rotate_left
        · ((intro w' hSw; (try dsimp only at hSw); go_simp) <;> with_reducible rfl)
        try simp only [Act.put, List.setIfInBounds_toArray]
        have hX3 := HX2.out.below hb3'
        have q2' := hX3.hblk.cell k (.slice Ak nk ck) (by simpa using hva)
        have hf3 := hX3.hblk.free k
        have hbh : wr.heap.size ≠ hb := by have := HX.out.hblk.lt; omega
        have HX3 := Lib.hid hX3
        have Hown3 := Lib.hid hown3
        have Hb3 := Lib.hid hb3'
        clear hX3 hown3 hb3 hb3'
        refine wpAnyH_ready (rs := [18]) (by kernel_rfl) (by simp) ?_
        refine AllReadyH.cons rfl (fun K hK => ?_) AllReadyH.nil
        rw [if_pos (by rfl)]
        go_simp
        refine hK.out _ _ ⟨(World.cell?_setCell_far _ _ _ _ (fun e => HX2.out.ne.1 e.symm)).trans p0', (World.cell?_setCell_far _ _ _ _ (fun e => hbh e.symm)).trans q0', (World.cell?_setCell_far _ _ _ _ (fun e => hbh e.symm)).trans q1'⟩ (fun hHeld => ?_)
        clear hK K
        try simp only [Act.put, List.setIfInBounds_toArray, List.set_cons_zero, List.set_cons_succ]
        refine wpAnyH_done (by kernel_rfl) ?_ _
        clear hHeld
        obtain ⟨l1, l2, l3⟩ := HX2.out.lts
        have HX4 := Lib.hid (HX3.out.setHas (a := k) (r := joinC r cs) (Held.fresh l1 l2 l3 Hown3.out))
        have hb4 : Below B w (w3.setCell ⟨hb, k, none⟩ (.slice A3 n3 c3)) := (Hb2.out.trans (Hb3.out.mono (by have := Hb3.out.size; omega))).setCell HX2.out.hB _
        have Hb4 := Lib.hid hb4
        obtain ⟨w4, hw4⟩ : ∃ w4, w4 = w3.setCell ⟨hb, k, none⟩ (.slice A3 n3 c3) := ⟨_, rfl⟩
        rw [← hw4] at HX4 Hb4 ⊢
        clear hw4 hb4 p0 q0 q1 p0' q0' q1' q2 q2' hf2 hf3 hbh HJ l1 l2 l3
        obtain ⟨vs4, hvs4⟩ : ∃ vs4, vs4 = vs.set k (.slice A3 n3 c3) := ⟨_, rfl⟩
        have hvl : vs.length = vs4.length := by rw [hvs4, List.length_set]
        rw [← hvs4] at HX4
        have r1 : w4.cell? ⟨p, 1, none⟩ = some (.slice (some ⟨b, 0, none⟩) wl.length cw) := HX4.out.blk.cell 1 _ rfl
        have rf1 := HX4.out.blk.free 1
        have HD := Lib.hid (del_any w4 B b cw wl.length i wl HX4.out.row hlt (by rw [Hwl.out]; exact HF.out.few.1.2.1) HX4.out.slices)
        have hwr1 : IntKind.i64.wrap ((i : Int) + 1) = (i : Int) + 1 := by rw [IntKind.wrap_i64]; omega
        clear hvs4 hvl
        go_wp2_with fail
        refine HD.out.mono ?_
        rintro e w5 ⟨rfl, hrow5, hg5⟩
        have hne4 : p ≠ b := fun e => (HX4.out.ne.2 b rfl).1 e.symm
        have hB5 : Blk w5 p 75 #[.slice (some ⟨hb, 0, none⟩) vs4.length vs4.length, .slice (some ⟨b, 0, none⟩) wl.length cw] := (hg5.block p HX4.out.lts.1 (fun e => hne4 (by injection e))).trans HX4.out.blk
        have r5 : w5.cell? ⟨p, 1, none⟩ = some (.slice (some ⟨b, 0, none⟩) wl.length cw) := hB5.cell 1 _ rfl
        have rf5 := hB5.free 1
        have HX5 := Lib.hid (HX4.out.setWaits (ws' := st'.2.eraseIdx i) (wl' := wl.eraseIdx i) (wv' := .slice (some ⟨b, 0, none⟩) (wl.length - 1) cw) hg5.size (fun b' hb' hne => hg5.block b' hb' (fun e => hne e.symm)) (fun g h => .inl h) (by rw [List.length_eraseIdx, if_pos hlt]; exact hrow5) (by rw [List.length_eraseIdx, List.length_eraseIdx, if_pos hlt, if_pos (by rw [← Hwl.out]; exact hlt), Hwl.out]) (fun j x y h1 h2 => by
          rw [List.getElem?_eraseIdx] at h1 h2
          split at h1
          · rename_i h3
            rw [if_pos h3] at h2
            exact HX4.out.wts j x y h1 h2
          · rename_i h3
            rw [if_neg h3] at h2
            exact HX4.out.wts (j + 1) x y h1 h2))
        have hb5 : Below B w (w5.setCell ⟨p, 1, none⟩ (.slice (some ⟨b, 0, none⟩) (wl.length - 1) cw)) := (Hb4.out.grown hg5 (by have := HX4.out.pB; have := HX4.out.lts.1; omega) (fun g hg => by injection hg with hg; rw [← hg]; exact (HX4.out.row.lt b rfl).1)).setCell HX4.out.pB _
        have hser : serveF gk st' i = serveF (gk - 1) (st'.1.set k (joinC r cs), st'.2.eraseIdx i) 0 := by
          obtain ⟨f, hf⟩ : ∃ f, gk = f + 1 := ⟨gk - 1, by have := Hfu.out; omega⟩
          rw [hf, Nat.add_sub_cancel]
          show (match st'.2[i]? with | none => _ | some y => _) = _
          rw [Hy.out]
          show (if _ then _ else _) = _
          rw [if_pos Hbl.out, List.getD_eq_getElem?_getD, Int.toNat_natCast, hr]
          rfl
        have hfit := HF.out.give Hy.out
        simp only [Int.toNat_natCast, List.getD_eq_getElem?_getD, hr, Option.getD_some] at hfit
        have HR := Lib.hid (show ServeRel w B p st X (gk - 1) (.int .i64 0) (w5.setCell ⟨p, 1, none⟩ (.slice (some ⟨b, 0, none⟩) (wl.length - 1) cw)) from ⟨_, 0, rfl, Nat.zero_le _, ⟨_, _, _, _, HX5.out⟩, hfit, hser.symm.trans Hsv.out, by
          have : (st'.2.eraseIdx i).length = st'.2.length - 1 := by rw [List.length_eraseIdx, if_pos (by rw [← Hwl.out]; exact hlt)]
          have := Hfu.out
          have := Hwl.out
          simp only
          omega, hb5⟩)
        clear hB5 hb5 hser hfit hrow5 hg5 HD r1 rf1 hne4
        go_wp2_with fail
        go_roundg (gk - 1)
        case measure => have := Hfu.out; omega
        case rel => exact HR.out
      · have hnb1 : ¬ (nb : Int) = 0 := by omega
        have hnb2 : ((nb : Int) == 0) = false := by simpa using hnb1
        have hwr1 : IntKind.i64.wrap ((i : Int) + 1) = (i : Int) + 1 := by rw [IntKind.wrap_i64]; omega
        have hne : blockF st' k cs i ≠ [] := fun e => h0 (by rw [Hnb.out, e]; rfl)
        have hser : serveF gk st' i = serveF (gk - 1) st' (i + 1) := by
          obtain ⟨f, hf⟩ : ∃ f, gk = f + 1 := ⟨gk - 1, by have := Hfu.out; omega⟩
          rw [hf, Nat.add_sub_cancel]
          show (match st'.2[i]? with | none => _ | some y => _) = _
          rw [Hy.out]
          show (if _ then _ else _) = _
          rw [if_neg hne]
        have HR := Lib.hid (show ServeRel w B p st X (gk - 1) (.int .i64 (((i + 1 : Nat)) : Int)) w2 from ⟨st', i + 1, rfl, by have := Hwl.out; omega, HT2.out, HF.out, hser.symm.trans Hsv.out, by
          have := Hfu.out
          have := Hwl.out
          omega, Hb2.out⟩)
        clear hne hser h0 hX2 hq2 hB2
        go_wp2_with fail
        go_roundg (gk - 1)
        case measure => have := Hfu.out; omega
        case rel => have h := HR.out; rw [Int.natCast_add] at h; exact h
    · have hi : i = st'.2.length := by omega
      have HP := Lib.hid (show DonePost B p (serveF 40 st 0) X w (.returned (.tuple #[])) wr from ⟨rfl, by
        obtain ⟨f, hf⟩ : ∃ f, gk = f + 1 := ⟨gk - 1, by omega⟩
        have : serveF gk st' i = st' := by
          rw [hf]
          unfold serveF
          rw [List.getElem?_eq_none (by omega)]
        rw [← hsv, this]
        exact hT, hbw⟩)
      clear hx hrdw hT hF hsv hfu hbw hwl hil hfew
      go_wp2_with fail
      go_end0
      exact HP.out
end Go.Proofs.Ytambngbkegnghaa
