/- MsgOwn's walk: it returns true. Conditions: the reach. -/
import Derived.Test.YtaahpjjffggaiaaMakeMsg
import Derived.Deep.RegionHeld3
namespace Go.Proofs.Ytaahpjjffggaiaa.msgOwn
open Go.RowKit Go.Gy
set_option linter.unusedVariables false
theorem flat_set (u : Value) : ∀ (xs : List Cell) (k : Nat) (x y y' : Int), xs[k]? = some (x, y) → (xs.flatMap encC).set (k * 2 + 1) (.int .i64 y') = (xs.set k (x, y')).flatMap encC
  | [], _, _, _, _, h => by simp at h
  | c :: xs, 0, x, y, y', h => by
    simp only [List.getElem?_cons_zero, Option.some.injEq] at h
    subst h
    rfl
  | c :: xs, k + 1, x, y, y', h => by
    have := flat_set u xs k x y y' (by simpa using h)
    simp only [List.flatMap_cons, List.set_cons_succ, ← this]
    rw [show (k + 1) * 2 + 1 = k * 2 + 1 + 1 + 1 by omega]
    rfl
def Bumped (cs ds : List Cell) (k : Nat) : Prop := ds.length = cs.length ∧ (k = 0 → ds = cs) ∧ (0 < k → ∃ x y, cs[0]? = some (x, y) ∧ ds[0]? = some (x, IntKind.i64.wrap (y + 1)))
theorem bumped_step {cs ds : List Cell} {k : Nat} {x y : Int} (h : Bumped cs ds k) (hk : ds[k]? = some (x, y)) : Bumped cs (ds.set k (x, IntKind.i64.wrap (y + 1))) (k + 1) := by
  obtain ⟨h1, h2, h3⟩ := h
  have hlt : k < ds.length := by
    rcases Nat.lt_or_ge k ds.length with h | h
    · exact h
    · rw [List.getElem?_eq_none h] at hk; cases hk
  refine ⟨by rw [List.length_set, h1], (fun h => by omega), fun _ => ?_⟩
  rcases Nat.eq_zero_or_pos k with rfl | h0
  · obtain rfl := h2 rfl
    exact ⟨x, y, hk, by rw [List.getElem?_set, if_pos rfl, if_pos hlt]⟩
  · obtain ⟨x0, y0, ha, hb⟩ := h3 h0
    refine ⟨x0, y0, ha, ?_⟩
    rw [List.getElem?_set, if_neg (by omega)]
    exact hb
theorem bumped_ne {cs ds : List Cell} {n : Nat} (h : Bumped cs ds n) (hn : cs.length = n) (h0 : 0 < n) : ¬ cs = ds := by
  intro e
  obtain ⟨_, _, h3⟩ := h
  obtain ⟨x, y, ha, hb⟩ := h3 h0
  rw [← e, ha] at hb
  simp only [Option.some.injEq, Prod.mk.injEq, true_and] at hb
  rw [IntKind.wrap_i64] at hb
  omega
theorem same_bumped {k f t s q : Int} {cs ds : List Cell} {n : Nat} (h : Bumped cs ds n) (hn : cs.length = n) : (((n : Int) == 0) == sameM ⟨k, f, t, s, q, cs⟩ ⟨k, f, t, s, q, ds⟩) = true := by
  rcases Nat.eq_zero_or_pos n with h0 | h0
  · subst h0
    rw [h.2.1 rfl]
    simp [sameM]
  · have := bumped_ne h hn h0
    simp [sameM, this]
    omega
set_option maxRecDepth 100000 in
set_option maxHeartbeats 2000000 in
theorem copy_own (w : World) (a : GMsg) (A : Option Addr) (n c : Nat) (ha : MsgAt w w.heap.size a A n c) :
    Calls Try.prog 13 #[msgV a A n c] w fun e w' => ∃ A' c', e = .returned (msgV a A' n c') ∧ w'.ownsRow w.heap.size 24 2 (.slice A' n c') n (a.cells.flatMap encC) ∧ Below w.heap.size w w' := by
  obtain ⟨k, f, t, s, q, cs⟩ := a
  have hbel : Below w.heap.size w (((w.alloc (.cells #[.int .i64 k, .int .i64 f, .int .i64 t, .int .i64 s, .int .u32 q, .slice A n c] 28))).alloc (.cells #[.int .i64 0, .int .i64 0, .int .i64 0, .int .i64 0, .int .u32 0, .slice none 0 0] 28)) := ((Below.refl _ _).alloc (Nat.le_refl _) _).alloc (by simp) _
  have hlen := ha.len
  have hbd := ha.bound
  have hcl := clone_cells (((w.alloc (.cells #[.int .i64 k, .int .i64 f, .int .i64 t, .int .i64 s, .int .u32 q, .slice A n c] 28))).alloc (.cells #[.int .i64 0, .int .i64 0, .int .i64 0, .int .i64 0, .int .u32 0, .slice none 0 0] 28)) A n c cs ha.none_ ha.len ha.bound ((ha.rd.below hbel).more (by simp; omega))
  have Hc := Lib.hid hcl
  have Hb := Lib.hid hbel
  have Hl := Lib.hid hlen
  clear hcl hbel ha hlen
  go_enter Try.func13, Try.ntmps13
  go_wp2_with fail
  refine Hc.out.mono ?_
  rintro e w1 ⟨v, rfl, hown, hb1⟩
  obtain ⟨A1, c1, rfl, hnc, _, hr1⟩ := own_rd hown
  have hz1 := hb1.size
  simp only [World.size_alloc] at hz1 hb1 hown
  have k0 : Blk w1 w.heap.size 28 #[.int .i64 k, .int .i64 f, .int .i64 t, .int .i64 s, .int .u32 q, .slice A n c] := ((Blk.new w 28 _).alloc _).below hb1 (by omega)
  have k1 : Blk w1 (w.heap.size + 1) 28 #[.int .i64 0, .int .i64 0, .int .i64 0, .int .i64 0, .int .u32 0, .slice none 0 0] := (by simpa using Blk.new (w.alloc _) 28 _ : Blk _ (w.heap.size + 1) 28 _).below hb1 (by omega)
  have a0 := k0.cell 0 _ rfl
  have a1 := k0.cell 1 _ rfl
  have a2 := k0.cell 2 _ rfl
  have a3 := k0.cell 3 _ rfl
  have a4 := k0.cell 4 _ rfl
  have a5 := k0.cell 5 _ rfl
  have af := k0.free 5
  have b0 := k1.cell 0 _ rfl
  have b1 := k1.cell 1 _ rfl
  have b2 := k1.cell 2 _ rfl
  have b3 := k1.cell 3 _ rfl
  have b4 := k1.cell 4 _ rfl
  have b5 := k1.cell 5 _ rfl
  have bf0 := k1.free 0
  have bf1 := k1.free 1
  have bf2 := k1.free 2
  have bf3 := k1.free 3
  have bf4 := k1.free 4
  have bf5 := k1.free 5
  have HB1 := Lib.hid hb1
  have HO := Lib.hid hown
  have HK := Lib.hid (show A1 = none → n = 0 ∧ c1 = 0 from own_none hown)
  have HZ := Lib.hid ((((((((k1.far (p := ⟨w.heap.size, 5, none⟩) (by simp) (.slice A1 n c1)).set 0 (.int .i64 k)).set 1 (.int .i64 f)).set 2 (.int .i64 t)).set 3 (.int .i64 s)).set 4 (.int .u32 q)).set 5 (.slice A1 n c1)))
  clear hb1 hown k0 k1
  go_wp2
  refine bodyPost_ret (results_cell_row Try.results13 _ _ (w.heap.size + 1) 28 _ (0, 0) _ rfl HZ.out Try.underlying28 rfl (by kernel_rfl)) rfl ?_
  refine ⟨A1, c1, rfl, ?_, ?_⟩
  · refine own_mono (base := w.heap.size + 2) ?_ (by omega)
    repeat' (refine ownsRow_setCell_below ?_ (by first | (show w.heap.size < _; omega) | (show w.heap.size + 1 < _; omega)) _)
    exact HO.out
  · have hb : Below w.heap.size w w1 := Hb.out.trans (HB1.out.mono (by omega))
    repeat' (refine Below.setCell ?_ (by first | (show w.heap.size ≤ w.heap.size; omega) | (show w.heap.size ≤ w.heap.size + 1; omega)) _)
    exact hb

set_option maxRecDepth 100000 in
set_option maxHeartbeats 4000000 in
theorem walk (v0 : Value) (w : World) {b0 : Nat} (f0 : IntsArg w v0 b0) :
    Calls Try.prog 3 #[v0] w fun e w' => e = .returned (.bool true) ∧ Below w.heap.size w w' := by
  obtain ⟨l, hl, _, _, hlb⟩ := f0
  have hlb' : l.length ≤ 140737488355328 := by unfold reachBytes at hlb; omega
  have Hl := Lib.hid hl
  obtain ⟨A, n, c, rfl, _⟩ := id hl
  obtain ⟨w2, hw2⟩ : ∃ w2, w2 = (w.alloc (.cells #[.int .i64 1, .int .i64 0] 24)).alloc (.cells (row6 0 0 4 0 0 (.slice (some ⟨w.heap.size, 0, none⟩) 1 1)) 28) := ⟨_, rfl⟩
  have hb2 : Below w.heap.size w w2 := by rw [hw2]; exact ((Below.refl _ _).alloc (Nat.le_refl _) _).alloc (by simp) _
  have hz2 : w2.heap.size = w.heap.size + 2 := by rw [hw2]; simp
  have hx0 : Blk w2 w.heap.size 24 #[.int .i64 1, .int .i64 0] := by rw [hw2]; exact (Blk.new w 24 _).alloc _
  have hx1 : Blk w2 (w.heap.size + 1) 28 (row6 0 0 4 0 0 (.slice (some ⟨w.heap.size, 0, none⟩) 1 1)) := by
    rw [hw2]
    have := Blk.new (w.alloc (.cells #[.int .i64 1, .int .i64 0] 24)) 28 (row6 0 0 4 0 0 (.slice (some ⟨w.heap.size, 0, none⟩) 1 1))
    rw [World.size_alloc] at this
    exact this
  have hat : MsgAt w2 w2.heap.size ⟨0, 0, 4, 0, 0, [(1, 0)]⟩ (some ⟨w.heap.size, 0, none⟩) 1 1 := by
    refine ⟨rfl, Nat.le_refl _, (fun h => by cases h), by omega, ?_⟩
    have h1 := Rd.lit w 24 [.int .i64 1, .int .i64 0] 2 1 rfl
    rw [hw2]
    exact ((h1.alloc (by simp) _).more (by simp))
  have HC := Lib.hid (copy_own w2 _ _ 1 1 hat)
  rw [hz2] at HC
  have Hb2 := Lib.hid hb2
  have Hx0 := Lib.hid hx0
  have Hx1 := Lib.hid hx1
  clear hlb hl hat hb2 hx0 hx1
  go_enter Try.func3, Try.ntmps3
  go_wp2_with fail
  rw [← hw2]
  clear hw2
  refine HC.out.mono ?_
  rintro e w3 ⟨A3, c3, rfl, hown3, hb3⟩
  obtain ⟨g3, c3', he3, hc3, hg3, hg3'⟩ := own_shape hown3 (by omega)
  injection he3 with e1 e2 e3
  subst e1 e3
  have hy0 := fun X => (hown3.alloc X).frozenAt 0
  have hy1 := fun X => show (w3.alloc X).cell? ⟨g3, 0, none⟩ = some (.int .i64 1) from (hown3.alloc X).cellAt 0 (by omega)
  obtain ⟨w4, hw4⟩ : ∃ w4, w4 = (w3.setCell ⟨g3, 0, none⟩ (.int .i64 9)).alloc (.cells (row6 0 0 4 0 0 (.slice (some ⟨g3, 0, none⟩) 1 c3)) 28) := ⟨_, rfl⟩
  have hz3 := hb3.size
  rw [hz2] at hz3
  have hb4 : Below (w.heap.size + 2) w2 w4 := by rw [hw4]; exact (hb3.setCell hg3 _).alloc (by simp; omega) _
  have hz4 : w.heap.size + 2 ≤ w4.heap.size := by rw [hw4]; simp; omega
  have hbw4 := Hb2.out.trans (hb4.mono (by omega))
  have hx04 := Hx0.out.below hb4 (by omega)
  have hx14 := Hx1.out.below hb4 (by omega)
  have HM := Lib.hid (message_any w4 (.slice A n c) l ((Hl.out.below hbw4).more hbw4.size) hlb')
  have Hbw4 := Lib.hid hbw4
  have Hx04 := Lib.hid hx04
  have Hx14 := Lib.hid hx14
  clear hown3 hb3 HC hb4 hbw4 hx04 hx14 Hx0 Hx1 Hb2 hz2 hz3
  go_upto_if 6 with (fail)
  rw [← hw4]
  clear hw4 hy0 hy1 hg3 hg3' hc3
  refine HM.out.mono ?_
  rintro e w5 ⟨m, A5, n5, c5, rfl, hown5, hml, _, hn8, hb5⟩
  obtain ⟨w6, hw6⟩ : ∃ w6, w6 = w5.alloc (.cells (row6 m.kind m.src m.dst m.seq m.clock (.slice A5 n5 c5)) 28) := ⟨_, rfl⟩
  have hz5 := hb5.size
  have hb56 : Below w5.heap.size w5 w6 := by rw [hw6]; exact (Below.refl _ _).alloc (Nat.le_refl _) _
  have hz6 : w6.heap.size = w5.heap.size + 1 := by rw [hw6]; simp
  have hb46 := hb5.trans (hb56.mono hb5.size)
  have hbw6 := Hbw4.out.trans (hb46.mono Hbw4.out.size)
  have hx06 := Hx04.out.below hb46 (by omega)
  have hx16 := Hx14.out.below hb46 (by omega)
  have hm6 : Blk w6 w5.heap.size 28 (row6 m.kind m.src m.dst m.seq m.clock (.slice A5 n5 c5)) := by rw [hw6]; exact Blk.new w5 28 _
  have hat6 := ((MsgAt.of_own (m := m) hown5 hml (by omega)).below hb56).more hb56.size
  have HK := Lib.hid (copy_own w6 m A5 n5 c5 hat6)
  have Hat6 := Lib.hid hat6
  have Hbw6 := Lib.hid hbw6
  have Hx06 := Lib.hid hx06
  have Hx16 := Lib.hid hx16
  have Hm6 := Lib.hid hm6
  have Hml := Lib.hid hml
  have haa := Lib.hid (show sameM m m = true by simp [sameM])
  obtain ⟨k, f, t, s, q, cs⟩ := m
  clear HM hown5 hml hb5 hb56 hb46 hbw6 hx06 hx16 hm6 hat6 Hbw4 Hx04 Hx14
  go_wp2_with fail
  rw [← hw6]
  clear hw6
  refine HK.out.mono ?_
  rintro e w7 ⟨A7, c7, rfl, hown7, hb7⟩
  have hz7 := hb7.size
  obtain ⟨w8, hw8⟩ : ∃ w8, w8 = w7.alloc (.cells (row6 k f t s q (.slice A7 n5 c7)) 28) := ⟨_, rfl⟩
  have hb78 : ∀ X, Below w7.heap.size w7 (w7.alloc X) := fun X => (Below.refl _ _).alloc (Nat.le_refl _) _
  have hm7 := fun X => (Hm6.out.below hb7 (by omega)).below (hb78 X) (by omega)
  have m0 := fun X => (hm7 X).cell 0 _ rfl
  have m1 := fun X => (hm7 X).cell 1 _ rfl
  have m2 := fun X => (hm7 X).cell 2 _ rfl
  have m3 := fun X => (hm7 X).cell 3 _ rfl
  have m4 := fun X => (hm7 X).cell 4 _ rfl
  have m5 := fun X => (hm7 X).cell 5 _ rfl
  have hb68 : Below w6.heap.size w6 w8 := by rw [hw8]; exact hb7.trans ((hb78 _).mono hb7.size)
  have hz8 : w8.heap.size = w7.heap.size + 1 := by rw [hw8]; simp
  have hm8 := Hm6.out.below hb68 (by omega)
  have hx08 := Hx06.out.below hb68 (by omega)
  have hx18 := Hx16.out.below hb68 (by omega)
  have hc8 : Blk w8 w7.heap.size 28 (row6 k f t s q (.slice A7 n5 c7)) := by rw [hw8]; exact Blk.new w7 28 _
  have hown8 : w8.ownsRow w6.heap.size 24 2 (.slice A7 n5 c7) n5 (cs.flatMap encC) := by rw [hw8]; exact hown7.alloc _
  have HS := Lib.hid (same_any w8 _ _ A5 A7 n5 n5 c5 c7 ((Hat6.out.below hb68).more hb68.size) (MsgAt.of_own (m := ⟨k, f, t, s, q, cs⟩) hown8 Hml.out (by omega)))
  rw [haa.out] at HS
  have Hb68 := Lib.hid hb68
  have Hm8 := Lib.hid hm8
  have Hx08 := Lib.hid hx08
  have Hx18 := Lib.hid hx18
  have Hc8 := Lib.hid hc8
  have Hown8 := Lib.hid hown8
  have HgL := Lib.hid hown7.lt
  clear HK hown7 hb7 hb78 hm7 hb68 hm8 hx08 hx18 hc8 hown8 haa
  go_wp2_with fail
  rw [← hw8]
  clear hw8 m0 m1 m2 m3 m4 m5
  refine HS.out.mono ?_
  rintro e w9 ⟨rfl, hb9⟩
  have hz9 := hb9.size
  have hm9 := Hm8.out.below hb9 (by omega)
  have hx09 := Hx08.out.below hb9 (by omega)
  have hx19 := Hx18.out.below hb9 (by omega)
  have hc9 := Hc8.out.below hb9 (by omega)
  have hown9 := own_below Hown8.out hb9 (Nat.le_refl _)
  have hb69 := Hb68.out.trans (hb9.mono Hb68.out.size)
  have Hb69 := Lib.hid hb69
  have Hm9 := Lib.hid hm9
  have Hx09 := Lib.hid hx09
  have Hx19 := Lib.hid hx19
  have Hc9 := Lib.hid hc9
  have Hown9 := Lib.hid hown9
  have f5 := hc9.cell 5 _ rfl
  clear HS hb9 hm9 hx09 hx19 hc9 hown9 hb69 Hb68 Hm8 Hx08 Hx18 Hc8 Hown8
  go_wp2_with fail
  go_loopw [8, 32] (fun v i wr => ∃ (j : Nat) (ds : List Cell), j ≤ n5 ∧ i = .int .i64 j ∧ Bumped cs ds j ∧ wr.ownsRow w6.heap.size 24 2 (.slice A7 n5 c7) n5 (ds.flatMap encC) ∧ Blk wr w7.heap.size 28 (row6 k f t s q (.slice A7 n5 c7)) ∧ Below w6.heap.size w6 wr) (fun _ i _ => n5 - (intOf i).toNat)
  case atStart => exact ⟨0, cs, Nat.zero_le _, rfl, ⟨rfl, fun _ => rfl, fun h => absurd h (by omega)⟩, Hown9.out, Hc9.out, Hb69.out⟩
  case round =>
    obtain ⟨j, ds, hj, rfl, hbu, hown, hc, hb⟩ := hrel
    by_cases hlt : j < n5
    · obtain ⟨g7, c7', he7, hc7, hg7, hg7'⟩ := own_shape hown (by omega)
      injection he7 with e1 e3 e4
      subst e1 e4
      have hg77 := (HgL.out g7 rfl).2
      have hdl : ds.length = n5 := hbu.1.trans Hml.out
      obtain ⟨⟨x, y⟩, hxy⟩ : ∃ z, ds[j]? = some z := ⟨_, List.getElem?_eq_getElem (by omega)⟩
      have hcell : wr.cell? ⟨g7, j * 2 + 1, none⟩ = some (.int .i64 y) := (hown.cellAt (j * 2 + 1) (by omega)).trans (flat_get (enc := encC) ds encC_len j (x, y) hxy 1 _ rfl)
      have hfz := hown.frozenAt (j * 2 + 1)
      have hc5 := hc.cell 5 _ rfl
      have HN := Lib.hid (show ∀ u, u = wrap64 (y + 1) → ∃ ds', Bumped cs ds' (j + 1) ∧ (wr.setCell ⟨g7, j * 2 + 1, none⟩ (.int .i64 u)).ownsRow w6.heap.size 24 2 (.slice (some ⟨g7, 0, none⟩) n5 c7) n5 (ds'.flatMap encC) ∧ Blk (wr.setCell ⟨g7, j * 2 + 1, none⟩ (.int .i64 u)) w7.heap.size 28 (row6 k f t s q (.slice (some ⟨g7, 0, none⟩) n5 c7)) ∧ Below w6.heap.size w6 (wr.setCell ⟨g7, j * 2 + 1, none⟩ (.int .i64 u)) from fun u hu => by
        obtain rfl : u = IntKind.i64.wrap (y + 1) := by rw [hu, IntKind.wrap_i64, wrap64]
        exact ⟨_, bumped_step hbu hxy, by rw [← flat_set (.bool true) ds j x y _ hxy]; exact (hown.stored _ _).1, hc.far (by show w7.heap.size ≠ g7; omega) _, hb.setCell hg7 _⟩)
      clear hown hc hb hbu hxy hdl
      go_wp2_with fail
      obtain ⟨ds', h1, h2, h3, h4⟩ := HN.out _ rfl
      exact ⟨⟨j + 1, ds', by omega, by go_num, h1, h2, h3, h4⟩, by simp [intOf]; omega⟩
    · obtain rfl : j = n5 := by omega
      have hzr := hb.size
      have hbw := Hbw6.out.trans (hb.mono Hbw6.out.size)
      have HE := Lib.hid (same_bumped (k := k) (f := f) (t := t) (s := s) (q := q) hbu Hml.out)
      have hdl : ds.length = j := hbu.1.trans Hml.out
      have hat7 := MsgAt.of_own (m := ⟨k, f, t, s, q, ds⟩) hown hdl (by omega)
      have hat5 := (Hat6.out.below hb).more hb.size
      have hx0 := Hx06.out.below hb (by omega)
      have hx1 := Hx16.out.below hb (by omega)
      have hm := Hm6.out.below hb (by omega)
      have hcl := hc.lt
      have HS := Lib.hid (show ∀ w', Below wr.heap.size wr w' → (w'.cell? ⟨w.heap.size + 1, 5, none⟩ = some (.slice (some ⟨w.heap.size, 0, none⟩) 1 1) ∧ w'.cell? ⟨w.heap.size, 0, none⟩ = some (.int .i64 1) ∧ w'.cell? ⟨w5.heap.size, 0, none⟩ = some (.int .i64 k) ∧ w'.cell? ⟨w5.heap.size, 1, none⟩ = some (.int .i64 f) ∧ w'.cell? ⟨w5.heap.size, 2, none⟩ = some (.int .i64 t) ∧ w'.cell? ⟨w5.heap.size, 3, none⟩ = some (.int .i64 s) ∧ w'.cell? ⟨w5.heap.size, 4, none⟩ = some (.int .u32 q) ∧ w'.cell? ⟨w5.heap.size, 5, none⟩ = some (.slice A5 j c5) ∧
        w'.cell? ⟨w7.heap.size, 0, none⟩ = some (.int .i64 k) ∧ w'.cell? ⟨w7.heap.size, 1, none⟩ = some (.int .i64 f) ∧ w'.cell? ⟨w7.heap.size, 2, none⟩ = some (.int .i64 t) ∧ w'.cell? ⟨w7.heap.size, 3, none⟩ = some (.int .i64 s) ∧ w'.cell? ⟨w7.heap.size, 4, none⟩ = some (.int .u32 q) ∧ w'.cell? ⟨w7.heap.size, 5, none⟩ = some (.slice A7 j c7) ∧ Below wr.heap.size wr w') from fun w' h =>
        ⟨(hx1.below h (by omega)).cell 5 _ rfl, (hx0.below h (by omega)).cell 0 _ rfl, (hm.below h (by omega)).cell 0 _ rfl, (hm.below h (by omega)).cell 1 _ rfl, (hm.below h (by omega)).cell 2 _ rfl, (hm.below h (by omega)).cell 3 _ rfl, (hm.below h (by omega)).cell 4 _ rfl, (hm.below h (by omega)).cell 5 _ rfl,
         (hc.below h hcl).cell 0 _ rfl, (hc.below h hcl).cell 1 _ rfl, (hc.below h hcl).cell 2 _ rfl, (hc.below h hcl).cell 3 _ rfl, (hc.below h hcl).cell 4 _ rfl, (hc.below h hcl).cell 5 _ rfl, h⟩)
      obtain ⟨b, hbq⟩ : ∃ b, b = sameM ⟨k, f, t, s, q, cs⟩ ⟨k, f, t, s, q, ds⟩ := ⟨_, rfl⟩
      have H15 := Lib.hid (show ∀ w', Below wr.heap.size wr w' → Calls Try.prog 15 #[msgV ⟨k, f, t, s, q, cs⟩ A5 j c5, msgV ⟨k, f, t, s, q, ds⟩ A7 j c7] w' fun e w'' => e = .returned (.bool b) ∧ Below wr.heap.size wr w'' from fun w' h => by
        rw [hbq]
        exact (same_any w' _ _ A5 A7 j j c5 c7 ((hat5.below h).more h.size) ((hat7.below h).more h.size)).mono fun e w'' ⟨h1, h2⟩ => ⟨h1, h.trans (h2.mono h.size)⟩)
      rw [← hbq] at HE
      have HB := Lib.hid hbw
      have hE : (((j : Int) == 0) == b) = true := HE.out
      clear hown hc hb hbu hx0 hx1 hm hcl hat5 hat7 hbq hdl hbw HE
      go_wp2_with fail
      go_region_held3 (fun w' => w'.cell? ⟨w.heap.size + 1, 5, none⟩ = some (.slice (some ⟨w.heap.size, 0, none⟩) 1 1) ∧ w'.cell? ⟨w.heap.size, 0, none⟩ = some (.int .i64 1) ∧ w'.cell? ⟨w5.heap.size, 0, none⟩ = some (.int .i64 k) ∧ w'.cell? ⟨w5.heap.size, 1, none⟩ = some (.int .i64 f) ∧ w'.cell? ⟨w5.heap.size, 2, none⟩ = some (.int .i64 t) ∧ w'.cell? ⟨w5.heap.size, 3, none⟩ = some (.int .i64 s) ∧ w'.cell? ⟨w5.heap.size, 4, none⟩ = some (.int .u32 q) ∧ w'.cell? ⟨w5.heap.size, 5, none⟩ = some (.slice A5 j c5) ∧
        w'.cell? ⟨w7.heap.size, 0, none⟩ = some (.int .i64 k) ∧ w'.cell? ⟨w7.heap.size, 1, none⟩ = some (.int .i64 f) ∧ w'.cell? ⟨w7.heap.size, 2, none⟩ = some (.int .i64 t) ∧ w'.cell? ⟨w7.heap.size, 3, none⟩ = some (.int .i64 s) ∧ w'.cell? ⟨w7.heap.size, 4, none⟩ = some (.int .u32 q) ∧ w'.cell? ⟨w7.heap.size, 5, none⟩ = some (.slice A7 j c7) ∧ Below wr.heap.size wr w')
        (first | exact HS.out _ (Below.refl _ _).drew | exact HS.out _ (by assumption))
        (first | (go_at_call 15; refine (H15.out _ (by simp [*])).mono ?_; rintro e w' ⟨rfl, hbn⟩))
      go_wp2
      go_ret
      refine ⟨rfl, HB.out.trans (Below.mono (B := wr.heap.size) ?_ HB.out.size)⟩
      assumption
end Go.Proofs.Ytaahpjjffggaiaa.msgOwn
