/- fall.Keep and fall.Back. Conditions: those typed. -/
import Derived.Test.YtaahpjjffggaiaaEvents
import Derived.Test.YtaahpjjffggaiaaFallW
import Derived.Test.YtaahpjjffggaiaaFallR
import Derived.Test.YtaahpjjffggaiaaAdd
import Derived.Test.YtaahpjjffggaiaaSlSs
namespace Go.Proofs.Ytaahpjjffggaiaa
open Go.RowKit Go.Gy
set_option linter.unusedVariables false
/-- what Keep returns: error, memory, log -/
def keepF (m : GMem) (b : List Nat) (e : GEv) : Nat × GMem × List Nat :=
  if (doF m e).1 ≠ 0 then ((doF m e).1, zeroMem, []) else if addE b (evB e) ≠ 0 then (addE b (evB e), zeroMem, []) else (0, (doF m e).2, addB b (evB e))
def KeepPost (r : Nat × GMem × List Nat) (w : World) (e : Ending) (w' : World) : Prop := ∃ v vb n, e = .returned (.tuple #[v, vb, .int .i64 ((r.1 : Nat) : Int)]) ∧ MemOwn w' w.heap.size r.2.1 v ∧ w'.ownsRow w.heap.size 5 1 vb n (r.2.2.map bv) ∧ Below w.heap.size w w'
theorem results_cell_three {P : Program} {fn : Func} {p q s : Tmp} {ty : TypeId} (h : fn.results = #[.cell p ty, .tmp q, .tmp s]) (tmps : Array Value) (w : World) (g : Nat) (t : TypeId) (cs : Array Value) (fr : Nat × Nat) (d : TypeDesc) (u x : Value)
    (hp : tmps.getD p undef = .pointer (some ⟨g, 0, none⟩)) (hq : tmps.getD q undef = u) (hs : tmps.getD s undef = x) (hg : w.heap[g]? = some (.cells cs t fr))
    (hu : P.underlying ty = some d) (hd : (match d with | .struct _ | .array _ _ => true | _ => false) = true) (hi : (P.info? ty).map (·.size) = some cs.size) :
    (results fn tmps).run P w = .ok (.tuple #[.agg cs, u, x]) w := by
  have hp' : tmps[p]?.getD undef = .pointer (some ⟨g, 0, none⟩) := by simpa using hp
  have hq' : tmps[q]?.getD undef = u := by simpa using hq
  have hs' : tmps[s]?.getD undef = x := by simpa using hs
  simp [results, h, hp', hq', hs', asAddr, run_loadVar_row w g t ty cs fr d hg hu hd hi]
theorem KeepPost.bad {r : Nat × GMem × List Nat} {x : Nat} {w w' : World} (h : r = (x, zeroMem, [])) (hb : Below w.heap.size w w') : KeepPost r w (.returned (.tuple #[.agg zeroMv, .slice none 0 0, .int .i64 (x : Int)])) w' := by
  subst h
  exact ⟨_, _, 0, rfl, MemOwn.zero _ _, World.ownsRow_nil _ _ _ _, hb⟩
set_option maxRecDepth 100000 in
set_option maxHeartbeats 4000000 in
theorem keep_any (w : World) (m : GMem) (e : GEv) (A : Option Addr) (n c : Nat) (A' : Option Addr) (n' c' : Nat) (D : Option Addr) (p d : Nat) (vb : Value) (b : List Nat)
    (ha : SlC w w.heap.size (.slice A n c) m.asked) (hh : SlC w w.heap.size (.slice A' n' c') m.has) (he : SlC w w.heap.size (.slice D p d) e.cells) (hv : SlB w w.heap.size vb b) (hn : b.length ≤ 1048576) (h8 : ∀ x ∈ b, x < 256) :
    Calls Try.prog 41 #[memV m A n c A' n' c', vb, evV e D p d] w (KeepPost (keepF m b e) w) := by
  have HD := Lib.hid (show ∀ w', Below w.heap.size w w' → Calls Try.prog 22 #[memV m A n c A' n' c', evV e D p d] w' (DoPost (doF m e) w') from fun w' hb => do_any w' m e A n c A' n' c' D p d ((ha.below hb).more hb.size) ((hh.below hb).more hb.size) ((he.below hb).more hb.size))
  have HW := Lib.hid (show ∀ w', Below w.heap.size w w' → Calls Try.prog 25 #[evV e D p d] w' (FWPost w' e) from fun w' hb => fwrite_any w' e D p d ((he.below hb).more hb.size))
  have HA := Lib.hid (show ∀ w' v r, Below w.heap.size w w' → SlB w' w'.heap.size v r → (∀ x ∈ r, x < 256) → Calls Try.prog 50 #[vb, v] w' (AddPost w' b r) from fun w' v r hb hr hr8 => add_any w' vb v b r ((hv.below hb).more hb.size) hr hn h8 hr8)
  obtain ⟨B, N, C, rfl, _⟩ := hv
  obtain ⟨X, M', hX⟩ : ∃ X M', doF m e = (X, M') := ⟨_, _, rfl⟩
  have HX := Lib.hid hX
  rw [hX] at HD
  have HK := Lib.hid (show ∀ r, r = keepF m b e → KeepPost (keepF m b e) = KeepPost r from fun r h => by rw [h])
  obtain ⟨g, t, l, l', f⟩ := m
  obtain ⟨k, v, ec⟩ := e
  clear ha hh he hX
  have hb3 : ∀ X Y Z, Below w.heap.size w (((w.alloc X).alloc Y).alloc Z) := fun X Y Z => (((Below.refl _ _).alloc (Nat.le_refl _) _).alloc (by simp) _).alloc (by simp; omega) _
  have Hb3 := Lib.hid hb3
  have HE3 := Lib.hid (show ∀ X Z, Blk (((w.alloc X).alloc (.cells #[.int .i64 k, .int .i64 v, .slice D p d] 48)).alloc Z) (w.heap.size + 1) 48 #[.int .i64 k, .int .i64 v, .slice D p d] from fun X Z => by
    have := Blk.new (w.alloc X) 48 #[.int .i64 k, .int .i64 v, .slice D p d]
    rw [World.size_alloc] at this
    exact this.alloc _)
  have HR3 := Lib.hid (show ∀ X Y, Blk (((w.alloc X).alloc Y).alloc (.cells zeroMv 46)) (w.heap.size + 1 + 1) 46 zeroMv from fun X Y => by
    have := Blk.new ((w.alloc X).alloc Y) 46 zeroMv
    simp only [World.size_alloc] at this
    exact this)
  clear hb3
  go_enter Try.func41, Try.ntmps41
  go_wp2_with fail
  refine (HD.out _ (Hb3.out _ _ _)).mono ?_
  rintro e w4 ⟨v4, rfl, ⟨A5, n5, c5, A6, n6, c6, rfl, ho5, ho6, h5, h6⟩, hb4⟩
  obtain ⟨g', t', l1, l2, f'⟩ := M'
  have hz4 := hb4.size
  simp only [World.size_alloc] at hz4 ho5 ho6
  have hE4 := (HE3.out _ _).below hb4 (by simp)
  have hR4 := (HR3.out _ _).below hb4 (by simp)
  have hbw4 := (Hb3.out _ _ _).trans (hb4.mono (by simp; omega))
  have HE4 := Lib.hid hE4
  have HR4 := Lib.hid hR4
  have HBw4 := Lib.hid hbw4
  have Ho5 := Lib.hid ho5
  have Ho6 := Lib.hid ho6
  clear hE4 hR4 hbw4 hb4 HE3 HR3 Hb3 ho5 ho6
  go_upto_if 21 with (fail)
  have hN := Blk.new w4 46 (memRow ⟨g', t', l1, l2, f'⟩ A5 n5 c5 A6 n6 c6)
  have hb45 : Below w4.heap.size w4 (w4.alloc (.cells (memRow ⟨g', t', l1, l2, f'⟩ A5 n5 c5 A6 n6 c6) 46)) := (Below.refl _ _).alloc (Nat.le_refl _) _
  change Code.wp _ _ _ _ (w4.alloc (.cells (memRow ⟨g', t', l1, l2, f'⟩ A5 n5 c5 A6 n6 c6) 46))
  generalize w4.alloc (.cells (memRow ⟨g', t', l1, l2, f'⟩ A5 n5 c5 A6 n6 c6) 46) = w5 at hN hb45 ⊢
  have hz5 := hN.lt
  have hR5 := HR4.out.below hb45 (by omega)
  have hE5 := HE4.out.below hb45 (by omega)
  have HBw5 := Lib.hid (HBw4.out.trans (hb45.mono (by omega)))
  have Ho5 := Lib.hid (own_below Ho5.out hb45 (Nat.le_refl _))
  have Ho6 := Lib.hid (own_below Ho6.out hb45 (Nat.le_refl _))
  by_cases hX0 : X = 0
  · subst hX0
    have hcz := doF_check HX.out
    have e0 := hE5.cell 0 _ rfl
    have e1 := hE5.cell 1 _ rfl
    have e2 := hE5.cell 2 _ rfl
    have HW5 := HW.out w5 HBw5.out
    unfold FWPost at HW5
    rw [hcz] at HW5
    have HW5 := Lib.hid HW5
    have HR5 := Lib.hid hR5
    have HN := Lib.hid hN
    have hl8 := Lib.hid (evB_lt hcz)
    clear hcz hN hb45 hR5 hE5 HD
    go_wp2_with fail
    refine HW5.out.mono ?_
    rintro e w6 ⟨v6, n6', rfl, ho7, hb6⟩
    simp only [if_true] at ho7
    obtain ⟨A7, c7, rfl, _, _, _⟩ := own_rd ho7
    have HBw6 := Lib.hid (HBw5.out.trans (hb6.mono HBw5.out.size))
    have HA6 := HA.out w6 (.slice A7 n6' c7) (evB ⟨k, v, ec⟩) HBw6.out (SlB.own ho7) hl8.out
    have HA6 := Lib.hid HA6
    have Ho5 := Lib.hid (own_below Ho5.out hb6 (Nat.le_refl _))
    have Ho6 := Lib.hid (own_below Ho6.out hb6 (Nat.le_refl _))
    have HR6 := Lib.hid (HR5.out.below hb6 (by omega))
    have HN6 := Lib.hid (HN.out.below hb6 HN.out.lt)
    have hz6 := hb6.size
    clear HW5 ho7 hb6 e0 e1 e2 HR5 HN HA HW
    go_wp2_with fail
    refine HA6.out.mono ?_
    rintro e w8 ⟨v8, n8, rfl, ho8, hb8⟩
    obtain ⟨A8, c8, rfl, _, _, _⟩ := own_rd ho8
    have HBw8 := Lib.hid (HBw6.out.trans (hb8.mono HBw6.out.size))
    have Ho5 := Lib.hid (own_below Ho5.out hb8 (Nat.le_refl _))
    have Ho6 := Lib.hid (own_below Ho6.out hb8 (Nat.le_refl _))
    have hR8 := HR6.out.below hb8 (by omega)
    have hN8 := HN6.out.below hb8 (by omega)
    have hz8 := hb8.size
    obtain ⟨Y, hY⟩ : ∃ Y, Y = addE b (evB ⟨k, v, ec⟩) := ⟨_, rfl⟩
    rw [← hY]
    have HY := Lib.hid hY
    have HO8 := Lib.hid ho8
    have HR8 := Lib.hid hR8
    have r0 := hR8.cell 0 _ rfl
    have r1 := hR8.cell 1 _ rfl
    have r2 := hR8.cell 2 _ rfl
    have r3 := hR8.cell 3 _ rfl
    have r4 := hR8.cell 4 _ rfl
    have f0 := hR8.free 0
    have f1 := hR8.free 1
    have f2 := hR8.free 2
    have f3 := hR8.free 3
    have f4 := hR8.free 4
    have n0 := hN8.cell 0 _ rfl
    have n1 := hN8.cell 1 _ rfl
    have n2 := hN8.cell 2 _ rfl
    have n3 := hN8.cell 3 _ rfl
    have n4 := hN8.cell 4 _ rfl
    clear hY ho8 hb8 hR8 hN8 HA6 HR6 HN6
    by_cases hY0 : Y = 0
    · subst hY0
      have HP := Lib.hid (show keepF ⟨g, t, l, l', f⟩ b ⟨k, v, ec⟩ = (0, ⟨g', t', l1, l2, f'⟩, addB b (evB ⟨k, v, ec⟩)) by unfold keepF; rw [HX.out, if_neg (by simp), if_neg (by rw [← HY.out]; simp)])
      go_wp2_with fail
      have hg := blk_set5 HR8.out (.int .i64 g') (.int .i64 t') (.slice A5 n5 c5) (.slice A6 n6 c6) (.int .i64 f')
      have ho7 := own_set5 (g := w.heap.size + 1 + 1) Ho5.out (by omega) (.int .i64 g') (.int .i64 t') (.slice A5 n5 c5) (.slice A6 n6 c6) (.int .i64 f')
      have hp7 := own_set5 (g := w.heap.size + 1 + 1) Ho6.out (by omega) (.int .i64 g') (.int .i64 t') (.slice A5 n5 c5) (.slice A6 n6 c6) (.int .i64 f')
      have hq7 := own_set5 (g := w.heap.size + 1 + 1) HO8.out (by omega) (.int .i64 g') (.int .i64 t') (.slice A5 n5 c5) (.slice A6 n6 c6) (.int .i64 f')
      have hb7 := below_set5 (g := w.heap.size + 1 + 1) HBw8.out (by omega) (.int .i64 g') (.int .i64 t') (.slice A5 n5 c5) (.slice A6 n6 c6) (.int .i64 f')
      generalize (((((w8.setCell ⟨w.heap.size + 1 + 1, 0, none⟩ (.int .i64 g')).setCell ⟨w.heap.size + 1 + 1, 1, none⟩ (.int .i64 t')).setCell ⟨w.heap.size + 1 + 1, 2, none⟩ (.slice A5 n5 c5)).setCell ⟨w.heap.size + 1 + 1, 3, none⟩ (.slice A6 n6 c6)).setCell ⟨w.heap.size + 1 + 1, 4, none⟩ (.int .i64 f')) = w9 at hg ho7 hp7 hq7 hb7 ⊢
      have hr := fun tm h1 h2 h3 => results_cell_three Try.results41 tm w9 (w.heap.size + 1 + 1) 46 (memRow ⟨g', t', l1, l2, f'⟩ A5 n5 c5 A6 n6 c6) (0, 0) _ (.slice A8 n8 c8) (.int .i64 0) h1 h2 h3 hg Try.underlying46 rfl (by kernel_rfl)
      refine bodyPost_ret (hr _ ?_ ?_ ?_) rfl ?_
      · rfl
      · rfl
      · rfl
      rw [HP.out]
      exact ⟨_, _, n8, rfl, ⟨A5, n5, c5, A6, n6, c6, rfl, own_mono ho7 (by omega), own_mono hp7 (by omega), h5, h6⟩, own_mono hq7 (by omega), hb7⟩
    · have hYb : ((Y : Int) != 0) = true := by simp; omega
      have HP := Lib.hid (show keepF ⟨g, t, l, l', f⟩ b ⟨k, v, ec⟩ = (Y, zeroMem, []) by unfold keepF; rw [HX.out, if_neg (by simp), ← HY.out, if_pos hY0])
      clear hY0
      go_wp2_with fail
      refine bodyPost_ret (results_cell_three Try.results41 _ _ (w.heap.size + 1 + 1) 46 zeroMv (0, 0) _ (.slice none 0 0) (.int .i64 (Y : Int)) rfl rfl rfl (blk_set5 HR8.out _ _ _ _ _) Try.underlying46 rfl (by kernel_rfl)) rfl ?_
      exact KeepPost.bad HP.out (below_set5 HBw8.out (by omega) _ _ _ _ _)
  · have hXb : ((X : Int) != 0) = true := by simp; omega
    have HP := Lib.hid (show keepF ⟨g, t, l, l', f⟩ b ⟨k, v, ec⟩ = (X, zeroMem, []) by unfold keepF; rw [HX.out, if_pos hX0])
    have r0 := hR5.cell 0 _ rfl
    have r1 := hR5.cell 1 _ rfl
    have r2 := hR5.cell 2 _ rfl
    have r3 := hR5.cell 3 _ rfl
    have r4 := hR5.cell 4 _ rfl
    have f0 := hR5.free 0
    have f1 := hR5.free 1
    have f2 := hR5.free 2
    have f3 := hR5.free 3
    have f4 := hR5.free 4
    have HR5 := Lib.hid hR5
    clear hN hb45 hR5 hE5 hX0
    go_wp2_with fail
    refine bodyPost_ret (results_cell_three Try.results41 _ _ (w.heap.size + 1 + 1) 46 zeroMv (0, 0) _ (.slice none 0 0) (.int .i64 (X : Int)) rfl rfl rfl (blk_set5 HR5.out _ _ _ _ _) Try.underlying46 rfl (by kernel_rfl)) rfl ?_
    exact KeepPost.bad HP.out (below_set5 HBw5.out (by omega) _ _ _ _ _)
theorem book_ge : ∀ (last : Nat) (rs : List (List Nat)), rs.length ≤ (bookF last rs).length
  | _, [] => by simp
  | last, r :: rs => by have := book_ge (rsum last r) rs; simp only [bookF, List.length_cons, List.length_append, enc1_len]; omega
theorem scan_few {b : List Nat} (h8 : ∀ x ∈ b, x < 256) : (scanL b).1.length ≤ b.length := by
  obtain ⟨_, h2, h3, _, _⟩ := scanL_spec h8
  have := book_ge 0 (scanL b).1
  omega
/-- what Back makes of records: memory, how many, error -/
def backL : GMem → Nat → List (List Nat) → GMem × Nat × Nat
  | m, i, [] => (m, i, 0)
  | m, i, r :: rs => if readFE r ≠ 0 then (zeroMem, i, readFE r) else if (doF m (readF r)).1 ≠ 0 then (zeroMem, i, (doF m (readF r)).1) else backL (doF m (readF r)).2 (i + 1) rs
def backF (b : List Nat) : GMem × Nat × Nat := backL zeroMem 0 (scanL b).1
def BackPost (r : GMem × Nat × Nat) (w : World) (e : Ending) (w' : World) : Prop := ∃ v, e = .returned (.tuple #[v, .int .i64 ((r.2.1 : Nat) : Int), .int .i64 ((r.2.2 : Nat) : Int)]) ∧ MemOwn w' w.heap.size r.1 v ∧ Below w.heap.size w w'
theorem BackPost.bad {r : GMem × Nat × Nat} {i x : Nat} {w w' : World} (h : r = (zeroMem, i, x)) (hb : Below w.heap.size w w') : BackPost r w (.returned (.tuple #[.agg zeroMv, .int .i64 (i : Int), .int .i64 (x : Int)])) w' := by
  subst h
  exact ⟨_, rfl, MemOwn.zero _ _, hb⟩
def BkRel (w w1 : World) (b : List Nat) (vs : List Value) (rs : List (List Nat)) (N : Nat) (i : Value) (wr : World) : Prop := ∃ (k : Nat) (m : GMem), k ≤ N ∧ i = .int .i64 (k : Int) ∧ backF b = backL m k (rs.drop k) ∧ MemBlk wr w1.heap.size (w1.heap.size + 1) m ∧ Blk wr w.heap.size 46 zeroMv ∧ Below w1.heap.size w1 wr ∧ w1.heap.size < wr.heap.size
set_option maxRecDepth 100000 in
set_option maxHeartbeats 4000000 in
theorem back_any (w : World) (vb : Value) (b : List Nat) (hv : SlB w w.heap.size vb b) (hn : b.length ≤ 1048576) (h8 : ∀ x ∈ b, x < 256) :
    Calls Try.prog 37 #[vb] w (BackPost (backF b) w) := by
  have hb0 : ∀ X, Below w.heap.size w (w.alloc X) := fun X => (Below.refl _ _).alloc (Nat.le_refl _) _
  have HR := Lib.hid (fun X => read_any (w.alloc X) vb b ((hv.below (hb0 X)).more (by simp)) hn h8)
  have Hb0 := Lib.hid hb0
  have hl8 := (scanL_spec h8).2.2.2.2
  have hfew := scan_few h8
  obtain ⟨B, N, C, rfl, _⟩ := hv
  have HK0 := Lib.hid (Blk.new w 46 zeroMv)
  obtain ⟨rs, hrs⟩ : ∃ rs, rs = (scanL b).1 := ⟨_, rfl⟩
  have Hrs := Lib.hid hrs
  rw [← hrs] at hl8 hfew
  have Hl8 := Lib.hid hl8
  have hfew' := Nat.le_trans hfew hn
  clear hl8 hb0 hrs h8 hfew
  go_enter Try.func37, Try.ntmps37
  go_wp2_with fail
  refine (HR.out _).mono ?_
  rintro e w1 ⟨v1, vs, rfl, hown1, hob1, hb1⟩
  rw [← Hrs.out] at hob1
  obtain ⟨s, hs⟩ : ∃ s, s = (scanL b).2.1 := ⟨_, rfl⟩
  rw [← hs]
  clear hs
  have hvl := hob1.1
  obtain ⟨A1, c1, rfl, hc1, _, hr1⟩ := own_rd hown1
  have hz1 := hb1.size
  simp only [World.size_alloc] at hz1
  have HBw1 := Lib.hid ((Hb0.out _).trans (hb1.mono (by simp)))
  have HK1 := Lib.hid (HK0.out.below hb1 (by simp))
  have Hob1 := Lib.hid hob1
  have Hr1 := Lib.hid hr1
  obtain ⟨n, hn⟩ : ∃ n, n = vs.length := ⟨_, rfl⟩
  rw [← hn] at Hr1 ⊢
  have Hn := Lib.hid hn
  have Hvl := Lib.hid hvl
  have hn48 : n ≤ 1048576 := by omega
  have hst := Lib.hid (show ∀ wr, wr = w1.alloc (.cells zeroMv 46) → BkRel w w1 b vs rs n (.int .i64 0) wr from fun wr h => by
    subst h
    exact ⟨0, zeroMem, Nat.zero_le _, rfl, by rw [List.drop_zero, Hrs.out]; rfl, ⟨none, 0, 0, none, 0, 0, Blk.new w1 _ _, World.ownsRow_nil _ _ _ _, World.ownsRow_nil _ _ _ _, by decide, by decide⟩, HK1.out.alloc _, (Below.refl _ _).alloc (Nat.le_refl _) _, by simp⟩)
  clear hown1 hob1 hb1 hr1 HK0 Hb0 HR hc1 hn hvl
  go_wp2_with fail
  go_loopw [19] (fun i wr => BkRel w w1 b vs rs n i wr) (fun i _ => n - (intOf i).toNat)
  case atStart => exact hst.out _ rfl
  case round =>
    obtain ⟨k, m, hk, rfl, hbk, ⟨A2, n2, c2, A3, n3, c3, hM, ho2, ho3, h2, h3⟩, hR, hb, hz⟩ := hrel
    have hzw := hb.size
    have Hbk := Lib.hid hbk
    have HM := Lib.hid hM
    have Ho2 := Lib.hid ho2
    have Ho3 := Lib.hid ho3
    have HR := Lib.hid hR
    have Hb := Lib.hid hb
    clear hbk hM ho2 ho3 hR hb
    by_cases hlt : k < n
    · obtain ⟨gb, go, u, hA, hgb, hu, hc⟩ := (Hr1.out.below Hb.out).at_ hlt
      subst hA
      have hlt' : (k : Int) < (n : Int) := by omega
      have hrk : rs[k]? = some (rs[k]'(by have := Hvl.out; have := Hn.out; omega)) := List.getElem?_eq_getElem _
      obtain ⟨r, hr⟩ : ∃ r, rs[k]? = some r := ⟨_, hrk⟩
      have hor := own_below (Hob1.out.2 k u r hu hr) Hb.out (Nat.le_refl _)
      obtain ⟨A4, c4, rfl, _, _, _⟩ := own_rd hor
      have hrm := Hl8.out r (List.mem_of_getElem? hr)
      have hF := fread_any wr _ r (SlB.own hor) hrm.2 (by omega)
      obtain ⟨F, hFe⟩ : ∃ F, F = readFE r := ⟨_, rfl⟩
      unfold ReadFPost at hF
      rw [← hFe] at hF
      have HF := Lib.hid hF
      have HFe := Lib.hid hFe
      have hdr : rs.drop k = r :: rs.drop (k + 1) := by
        rw [List.drop_eq_getElem_cons (by have := Hvl.out; have := Hn.out; omega)]
        congr 1
        rw [hrk] at hr
        injection hr
      have Hdr := Lib.hid hdr
      clear hu hr hrk hor hrm hF hFe hdr
      go_wp2_with fail
      refine HF.out.mono ?_
      rintro e w5 ⟨A5, n5, c5, rfl, hs5, hn5, hb5⟩
      obtain ⟨ev, hev⟩ : ∃ ev, ev = readF r := ⟨_, rfl⟩
      rw [← hev] at hs5 ⊢
      have Hev := Lib.hid hev
      obtain ⟨ek, en, ec⟩ := ev
      have hbr5 := Hb.out.trans (hb5.mono hzw)
      have hz5 := hb5.size
      have Hs5 := Lib.hid hs5
      have HM5 := Lib.hid (HM.out.below hb5 hz)
      have HR5 := Lib.hid (HR.out.below hb5 HR.out.lt)
      have Ho2 := Lib.hid (own_below Ho2.out hb5 (Nat.le_refl _))
      have Ho3 := Lib.hid (own_below Ho3.out hb5 (Nat.le_refl _))
      have Hbr5 := Lib.hid hbr5
      clear hs5 hev hb5 hbr5 HF
      go_upto_if 30 with (fail)
      have hN := Blk.new w5 48 #[.int .i64 ek, .int .i64 en, .slice A5 n5 c5]
      have hb56 : Below w5.heap.size w5 (w5.alloc (.cells #[.int .i64 ek, .int .i64 en, .slice A5 n5 c5] 48)) := (Below.refl _ _).alloc (Nat.le_refl _) _
      generalize w5.alloc (.cells #[.int .i64 ek, .int .i64 en, .slice A5 n5 c5] 48) = w6 at hN hb56 ⊢
      have hz6 := hN.lt
      have HM6 := Lib.hid (HM5.out.below hb56 (by omega))
      have HR6 := Lib.hid (HR5.out.below hb56 HR5.out.lt)
      have Ho2 := Lib.hid (own_below Ho2.out hb56 (Nat.le_refl _))
      have Ho3 := Lib.hid (own_below Ho3.out hb56 (Nat.le_refl _))
      have Hbr6 := Lib.hid (Hbr5.out.trans (hb56.mono Hbr5.out.size))
      have Hs6 := Lib.hid ((Hs5.out.below hb56).more hb56.size)
      have HN := Lib.hid hN
      clear hN hb56
      by_cases hF0 : F = 0
      · subst hF0
        have hD := do_any w6 m ⟨ek, en, ec⟩ A2 n2 c2 A3 n3 c3 A5 n5 c5 (SlC.own Ho2.out) (SlC.own Ho3.out) Hs6.out
        obtain ⟨X, M', hX⟩ : ∃ X M', doF m ⟨ek, en, ec⟩ = (X, M') := ⟨_, _, rfl⟩
        rw [hX] at hD
        have HD := Lib.hid hD
        have HX := Lib.hid hX
        obtain ⟨g', t', l1, l2, f'⟩ := M'
        have m0 := HM6.out.cell 0 _ rfl
        have m1 := HM6.out.cell 1 _ rfl
        have m2 := HM6.out.cell 2 _ rfl
        have m3 := HM6.out.cell 3 _ rfl
        have m4 := HM6.out.cell 4 _ rfl
        have e0 := HN.out.cell 0 _ rfl
        have e1 := HN.out.cell 1 _ rfl
        have e2 := HN.out.cell 2 _ rfl
        clear hD hX
        go_wp2_with fail
        refine HD.out.mono ?_
        rintro e w7 ⟨v7, rfl, ⟨A7, n7, c7, A8, n8, c8, rfl, ho7, ho8, h7, h8⟩, hb7⟩
        have HM7 := Lib.hid (HM6.out.below hb7 (by omega))
        have HR7 := Lib.hid (HR6.out.below hb7 HR6.out.lt)
        have Hbr7 := Lib.hid (Hbr6.out.trans (hb7.mono Hbr6.out.size))
        have Ho7 := Lib.hid ho7
        have Ho8 := Lib.hid ho8
        have hz7 := hb7.size
        clear ho7 ho8 hb7 HD m0 m1 m2 m3 m4 e0 e1 e2 HM6 HR6 Hbr6 Ho2 Ho3
        have f0 := HM7.out.free 0
        have f1 := HM7.out.free 1
        have f2 := HM7.out.free 2
        have f3 := HM7.out.free 3
        have f4 := HM7.out.free 4
        have m0 := HM7.out.cell 0 _ rfl
        have m1 := HM7.out.cell 1 _ rfl
        have m2 := HM7.out.cell 2 _ rfl
        have m3 := HM7.out.cell 3 _ rfl
        have m4 := HM7.out.cell 4 _ rfl
        go_upto_if 41 with (fail)
        have hM8 := blk_set5 HM7.out (.int .i64 g') (.int .i64 t') (.slice A7 n7 c7) (.slice A8 n8 c8) (.int .i64 f')
        have hR8 := blk_far5 (g := w1.heap.size) HR7.out (by omega) (.int .i64 g') (.int .i64 t') (.slice A7 n7 c7) (.slice A8 n8 c8) (.int .i64 f')
        have ho7 := own_set5 (g := w1.heap.size) (own_mono Ho7.out (show w1.heap.size + 1 ≤ w6.heap.size by omega)) (by omega) (.int .i64 g') (.int .i64 t') (.slice A7 n7 c7) (.slice A8 n8 c8) (.int .i64 f')
        have ho8 := own_set5 (g := w1.heap.size) (own_mono Ho8.out (show w1.heap.size + 1 ≤ w6.heap.size by omega)) (by omega) (.int .i64 g') (.int .i64 t') (.slice A7 n7 c7) (.slice A8 n8 c8) (.int .i64 f')
        have hb8 := below_set5 (g := w1.heap.size) Hbr7.out (Nat.le_refl _) (.int .i64 g') (.int .i64 t') (.slice A7 n7 c7) (.slice A8 n8 c8) (.int .i64 f')
        have hz8 := size_set5 w7 w1.heap.size (.int .i64 g') (.int .i64 t') (.slice A7 n7 c7) (.slice A8 n8 c8) (.int .i64 f')
        generalize (((((w7.setCell ⟨w1.heap.size, 0, none⟩ (.int .i64 g')).setCell ⟨w1.heap.size, 1, none⟩ (.int .i64 t')).setCell ⟨w1.heap.size, 2, none⟩ (.slice A7 n7 c7)).setCell ⟨w1.heap.size, 3, none⟩ (.slice A8 n8 c8)).setCell ⟨w1.heap.size, 4, none⟩ (.int .i64 f')) = w8 at hM8 hR8 ho7 ho8 hb8 hz8 ⊢
        have HM8 := Lib.hid hM8
        have HR8 := Lib.hid hR8
        have Ho7 := Lib.hid ho7
        have Ho8 := Lib.hid ho8
        have Hb8 := Lib.hid hb8
        clear f0 f1 f2 f3 f4 m0 m1 m2 m3 m4 hM8 hR8 ho7 ho8 hb8
        by_cases hX0 : X = 0
        · subst hX0
          have Hnx := Lib.hid (show BkRel w w1 b vs rs n (.int .i64 ((k : Int) + 1)) w8 from ⟨k + 1, ⟨g', t', l1, l2, f'⟩, by omega, by go_num, by
            rw [Hbk.out, Hdr.out]
            conv => lhs; unfold backL
            rw [← HFe.out, if_neg (by simp), ← Hev.out, HX.out, if_neg (by simp)], ⟨A7, n7, c7, A8, n8, c8, HM8.out, Ho7.out, Ho8.out, h7, h8⟩, HR8.out, Hb8.out, by omega⟩)
          go_wp2_with fail
          go_roundw
          case rel => exact Hnx.out
          case measure => simp [intOf]; omega
        · have hXb : ((X : Int) != 0) = true := by simp; omega
          have HP := Lib.hid (show backF b = (zeroMem, k, X) by rw [Hbk.out, Hdr.out]; unfold backL; rw [← HFe.out, if_neg (by simp), ← Hev.out, HX.out, if_pos hX0])
          have r0 := HR8.out.cell 0 _ rfl
          have r1 := HR8.out.cell 1 _ rfl
          have r2 := HR8.out.cell 2 _ rfl
          have r3 := HR8.out.cell 3 _ rfl
          have r4 := HR8.out.cell 4 _ rfl
          have f0 := HR8.out.free 0
          have f1 := HR8.out.free 1
          have f2 := HR8.out.free 2
          have f3 := HR8.out.free 3
          have f4 := HR8.out.free 4
          clear hX0
          go_wp2_with fail
          refine bodyPost_ret (results_cell_three Try.results37 _ _ w.heap.size 46 zeroMv (0, 0) _ (.int .i64 (k : Int)) (.int .i64 (X : Int)) rfl rfl rfl (blk_set5 HR8.out _ _ _ _ _) Try.underlying46 rfl (by kernel_rfl)) rfl ?_
          exact BackPost.bad HP.out (below_set5 (HBw1.out.trans (Hb8.out.mono (by omega))) (by omega) _ _ _ _ _)
      · have hFb : ((F : Int) != 0) = true := by simp; omega
        have HP := Lib.hid (show backF b = (zeroMem, k, F) by rw [Hbk.out, Hdr.out]; unfold backL; rw [← HFe.out, if_pos hF0])
        have r0 := HR6.out.cell 0 _ rfl
        have r1 := HR6.out.cell 1 _ rfl
        have r2 := HR6.out.cell 2 _ rfl
        have r3 := HR6.out.cell 3 _ rfl
        have r4 := HR6.out.cell 4 _ rfl
        have f0 := HR6.out.free 0
        have f1 := HR6.out.free 1
        have f2 := HR6.out.free 2
        have f3 := HR6.out.free 3
        have f4 := HR6.out.free 4
        clear hF0
        go_wp2_with fail
        refine bodyPost_ret (results_cell_three Try.results37 _ _ w.heap.size 46 zeroMv (0, 0) _ (.int .i64 (k : Int)) (.int .i64 (F : Int)) rfl rfl rfl (blk_set5 HR6.out _ _ _ _ _) Try.underlying46 rfl (by kernel_rfl)) rfl ?_
        exact BackPost.bad HP.out (below_set5 (HBw1.out.trans (Hbr6.out.mono (by omega))) (by omega) _ _ _ _ _)
    · obtain rfl : k = n := by omega
      have HP := Lib.hid (show backF b = (m, k, 0) by rw [Hbk.out, List.drop_of_length_le (by have := Hvl.out; have := Hn.out; omega)]; rfl)
      obtain ⟨g', t', l1, l2, f'⟩ := m
      have m0 := HM.out.cell 0 _ rfl
      have m1 := HM.out.cell 1 _ rfl
      have m2 := HM.out.cell 2 _ rfl
      have m3 := HM.out.cell 3 _ rfl
      have m4 := HM.out.cell 4 _ rfl
      have r0 := HR.out.cell 0 _ rfl
      have r1 := HR.out.cell 1 _ rfl
      have r2 := HR.out.cell 2 _ rfl
      have r3 := HR.out.cell 3 _ rfl
      have r4 := HR.out.cell 4 _ rfl
      have f0 := HR.out.free 0
      have f1 := HR.out.free 1
      have f2 := HR.out.free 2
      have f3 := HR.out.free 3
      have f4 := HR.out.free 4
      go_wp2_with fail
      have hg := blk_set5 HR.out (.int .i64 g') (.int .i64 t') (.slice A2 n2 c2) (.slice A3 n3 c3) (.int .i64 f')
      have hp7 := own_set5 (g := w.heap.size) (own_mono Ho2.out (show w.heap.size + 1 ≤ w1.heap.size + 1 by omega)) (by omega) (.int .i64 g') (.int .i64 t') (.slice A2 n2 c2) (.slice A3 n3 c3) (.int .i64 f')
      have hq7 := own_set5 (g := w.heap.size) (own_mono Ho3.out (show w.heap.size + 1 ≤ w1.heap.size + 1 by omega)) (by omega) (.int .i64 g') (.int .i64 t') (.slice A2 n2 c2) (.slice A3 n3 c3) (.int .i64 f')
      have hb7 := below_set5 (g := w.heap.size) (HBw1.out.trans (Hb.out.mono (by omega))) (Nat.le_refl _) (.int .i64 g') (.int .i64 t') (.slice A2 n2 c2) (.slice A3 n3 c3) (.int .i64 f')
      generalize (((((wr.setCell ⟨w.heap.size, 0, none⟩ (.int .i64 g')).setCell ⟨w.heap.size, 1, none⟩ (.int .i64 t')).setCell ⟨w.heap.size, 2, none⟩ (.slice A2 n2 c2)).setCell ⟨w.heap.size, 3, none⟩ (.slice A3 n3 c3)).setCell ⟨w.heap.size, 4, none⟩ (.int .i64 f')) = w9 at hg hp7 hq7 hb7 ⊢
      have hr := fun tm h1 h2 h3 => results_cell_three Try.results37 tm w9 w.heap.size 46 (memRow ⟨g', t', l1, l2, f'⟩ A2 n2 c2 A3 n3 c3) (0, 0) _ (.int .i64 (k : Int)) (.int .i64 0) h1 h2 h3 hg Try.underlying46 rfl (by kernel_rfl)
      refine bodyPost_ret (hr _ ?_ ?_ ?_) rfl ?_
      · rfl
      · rfl
      · rfl
      rw [HP.out]
      exact ⟨_, rfl, ⟨A2, n2, c2, A3, n3, c3, rfl, own_mono hp7 (by omega), own_mono hq7 (by omega), h2, h3⟩, hb7⟩
end Go.Proofs.Ytaahpjjffggaiaa
