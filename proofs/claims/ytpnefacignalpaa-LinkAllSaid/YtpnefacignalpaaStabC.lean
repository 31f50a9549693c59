/- slices.symMergeCmpFunc at sent messages where one element stands on the left. Conditions: those typed. -/
import Derived.Test.YtpnefacignalpaaStabB
import Derived.Test.YtpnefacignalpaaStabP
namespace Go.Proofs.Ytpnefacignalpaa
open Go.RowKit Go.Gy
set_option linter.unusedVariables false
set_option linter.unusedSimpArgs false
def S1Rel (w : World) (base g n cap a b : Nat) (xs : List (SE × Nat)) (i j : Value) (wr : World) : Prop := ∃ (p q : Nat), a + 1 ≤ p ∧ p ≤ q ∧ q ≤ b ∧ i = .int .i64 p ∧ j = .int .i64 q ∧ Bs1 dueE a b p q xs ∧ GRow base g n cap xs wr ∧ GroW g w wr
def U1Rel (w : World) (base g n cap a i : Nat) (xs : List (SE × Nat)) (k : Value) (wr : World) : Prop := ∃ (p : Nat) (ys : List (SE × Nat)), a ≤ p ∧ p + 1 ≤ i ∧ k = .int .i64 p ∧ RotIs a (a + 1) (p + 1) xs ys ∧ GRow base g n cap ys wr ∧ GroW g w wr
set_option maxRecDepth 100000 in
set_option maxHeartbeats 4000000 in
theorem symmerge_one1 (w : World) (base g n cap : Nat) (xs : List (SE × Nat)) (a m b : Nat) (h : GRow base g n cap xs w) (hd : DuesOk xs) (ham : a < m) (hmb : m < b) (hb : b ≤ n) (hn : n ≤ 1000000) (hp : MPre dueE a m b xs) (h1 : m = a + 1) :
    Calls Try.prog 46 #[.slice (some ⟨g, 0, none⟩) n cap, .int .i64 a, .int .i64 m, .int .i64 b, .func (.func 36) #[] #[]] w fun e w' => e = .returned (.tuple #[]) ∧ ∃ ys, MPost dueE a b xs ys ∧ GRow base g n cap ys w' ∧ GroW g w w' := by
  subst h1
  have HP := Lib.hid hp
  have HD := Lib.hid hd
  have HL := Lib.hid h.len
  have hw1 : IntKind.i64.wrap ((a : Int) + 1 - (a : Int)) = 1 := by rw [IntKind.wrap_i64]; omega
  have hst := Lib.hid (show S1Rel w base g n cap a b xs (.int .i64 ((a + 1 : Nat) : Int)) (.int .i64 (b : Int)) w from ⟨a + 1, b, Nat.le_refl _, by omega, Nat.le_refl _, rfl, rfl, Bs1.start _ _ _, h, GroW.refl _ _⟩)
  obtain ⟨m, hm⟩ : ∃ m : Nat, m = a + 1 := ⟨_, rfl⟩
  rw [← hm] at hst ⊢
  have hw1 : IntKind.i64.wrap ((m : Int) - (a : Int)) = 1 := by rw [IntKind.wrap_i64]; omega
  have ham2 : a < m := by omega
  clear h hp hd hm
  go_enter Try.func46, Try.ntmps46
  go_wp2_with fail
  go_loopw [10, 11] (fun i j wr => S1Rel w base g n cap a b xs i j wr) (fun i j _ => (intOf j).toNat - (intOf i).toNat)
  case atStart => exact hst.out
  case round =>
    clear hst hw1
    obtain ⟨i, j, hai, hij0, hjb, rfl, rfl, hbs, hrow, hbw⟩ := hrel
    by_cases hlt : i < j
    · obtain ⟨h, hh⟩ : ∃ h, h = (i + j) / 2 := ⟨_, rfl⟩
      have h1 : i ≤ h := by omega
      have h2 : h < j := by omega
      have hg1 : IntKind.i64.wrap ((i : Int) + (j : Int)) = (i : Int) + (j : Int) := by rw [IntKind.wrap_i64]; omega
      have hg2 : IntKind.u64.wrap ((i : Int) + (j : Int)) = (i : Int) + (j : Int) := by rw [IntKind.wrap_u64]; omega
      have hg3 : ((i : Int) + (j : Int)) / 2 = (h : Int) := by omega
      have hg4 : IntKind.u64.wrap (h : Int) = (h : Int) := by rw [IntKind.wrap_u64]; omega
      have hg5 : IntKind.i64.wrap (h : Int) = (h : Int) := by rw [IntKind.wrap_i64]; omega
      have hg6 : IntKind.i64.wrap ((h : Int) + 1) = (h : Int) + 1 := by rw [IntKind.wrap_i64]; omega
      have hh2 : 0 ≤ (h : Int) ∧ (h : Int) < (n : Int) := by omega
      have hij : (i : Int) < (j : Int) := by omega
      obtain ⟨dx, kx, sx, tx, qx, cx, lx, Ax, mx, px, ix, hx, hx2⟩ := hrow.get (i := a) (by omega)
      obtain ⟨dy, ky, sy, ty, qy, cy, ly, Ay, my, py, iy, hy, hy2⟩ := hrow.get (i := h) (by omega)
      have ha2 : 0 ≤ (a : Int) ∧ (a : Int) < (n : Int) := by omega
      have hdx := HD.out.get hx
      have hdy := HD.out.get hy
      have HX2 := Lib.hid hx2
      have HY2 := Lib.hid hy2
      have HC := Lib.hid (fun (W : World) => cmp_sent W dy ky sy ty qy cy dx kx sx tx qx cx Ay Ax my py mx px hdy hdx)
      have HSF := Lib.hid (show SwF w base g n cap xs wr.drew from ⟨SRow.below hrow (Below.refl _ _).drew, hbw.drew⟩)
      have HUP := Lib.hid (fun (W : World) (hW : SwF w base g n cap xs W) (hlt : dy < dx) => show S1Rel w base g n cap a b xs (.int .i64 ((h : Int) + 1)) (.int .i64 (j : Int)) W from ⟨h + 1, j, by omega, by omega, hjb, by simp, rfl, hbs.up HP.out (by omega) (by omega) hx hy hlt, hW.1, hW.2⟩)
      have HDN := Lib.hid (fun (W : World) (hW : SwF w base g n cap xs W) (hlt : ¬ dy < dx) => show S1Rel w base g n cap a b xs (.int .i64 (i : Int)) (.int .i64 (h : Int)) W from ⟨i, h, by omega, by omega, by omega, rfl, rfl, hbs.down HP.out (by omega) (by omega) hx hy hlt, hW.1, hW.2⟩)
      have HH := Lib.hid hh
      clear hrow hbw hbs hx hy hx2 hy2 hdx hdy hh
      go_upto_region 5 with (fail)
      refine wp_region_seq (SwF w base g n cap xs) (SwF.lasts _ _ _ _ _ _) (by kernel_rfl) (by kernel_rfl) HSF.out ?_
      clear HSF
      repeat (first
        | (refine wpSeq_off (by rfl) ?_; try simp only [Act.put, List.setIfInBounds_toArray, List.set_cons_zero, List.set_cons_succ])
        | (refine wpSeq_val (v := .bool true) (by rfl) (fun W hS => ?_) ?_
           · (clear hS; go_simp; done)
           try simp only [Act.put, List.setIfInBounds_toArray, List.set_cons_zero, List.set_cons_succ])
        | (refine wpSeq_val (v := .bool false) (by rfl) (fun W hS => ?_) ?_
           · (clear hS; go_simp; done)
           try simp only [Act.put, List.setIfInBounds_toArray, List.set_cons_zero, List.set_cons_succ])
        | (refine wpSeq_val (v := ?_) (by rfl) (fun W hS => ?_) ?_
           rotate_left
           · ((obtain ⟨x0, x1, x2, x3, x4, x5, x6⟩ := SRow.cells hS.1 HX2.out; obtain ⟨y0, y1, y2, y3, y4, y5, y6⟩ := SRow.cells hS.1 HY2.out; clear hS); go_simp; first | done | with_reducible rfl)
           try simp only [Act.put, List.setIfInBounds_toArray, List.set_cons_zero, List.set_cons_succ]))
      refine wpSeq_call (v := .int .i64 (dy - dx)) (by rfl) (fun W hS => ?_) (fun W hS => ((fun W _ => HC.out W) W hS)) ?_
      · (clear hS; go_simp; done)
      try simp only [Act.put, List.setIfInBounds_toArray, List.set_cons_zero, List.set_cons_succ]
      by_cases hd1 : dy < dx
      · have hd2 : dy - dx < 0 := by omega
        repeat (first
          | (refine wpSeq_off (by rfl) ?_; try simp only [Act.put, List.setIfInBounds_toArray, List.set_cons_zero, List.set_cons_succ])
          | (refine wpSeq_val (v := .bool true) (by rfl) (fun W hS => ?_) ?_
             · (clear hS; go_simp; done)
             try simp only [Act.put, List.setIfInBounds_toArray, List.set_cons_zero, List.set_cons_succ])
          | (refine wpSeq_val (v := .bool false) (by rfl) (fun W hS => ?_) ?_
             · (clear hS; go_simp; done)
             try simp only [Act.put, List.setIfInBounds_toArray, List.set_cons_zero, List.set_cons_succ])
          | (refine wpSeq_val (v := ?_) (by rfl) (fun W hS => ?_) ?_
             rotate_left
             · ((clear hS); go_simp; first | done | with_reducible rfl)
             try simp only [Act.put, List.setIfInBounds_toArray, List.set_cons_zero, List.set_cons_succ]))
        refine wpSeq_nil (fun W hS => ?_)
        have HX := Lib.hid (HUP.out W hS hd1)
        clear hS HUP HDN HC HX2 HY2
        go_wp2_with fail
        go_roundw
        case rel => exact HX.out
        case measure => simp [intOf]; omega
      · have hd2 : ¬ dy - dx < 0 := by omega
        repeat (first
          | (refine wpSeq_off (by rfl) ?_; try simp only [Act.put, List.setIfInBounds_toArray, List.set_cons_zero, List.set_cons_succ])
          | (refine wpSeq_val (v := .bool true) (by rfl) (fun W hS => ?_) ?_
             · (clear hS; go_simp; done)
             try simp only [Act.put, List.setIfInBounds_toArray, List.set_cons_zero, List.set_cons_succ])
          | (refine wpSeq_val (v := .bool false) (by rfl) (fun W hS => ?_) ?_
             · (clear hS; go_simp; done)
             try simp only [Act.put, List.setIfInBounds_toArray, List.set_cons_zero, List.set_cons_succ])
          | (refine wpSeq_val (v := ?_) (by rfl) (fun W hS => ?_) ?_
             rotate_left
             · ((clear hS); go_simp; first | done | with_reducible rfl)
             try simp only [Act.put, List.setIfInBounds_toArray, List.set_cons_zero, List.set_cons_succ]))
        refine wpSeq_nil (fun W hS => ?_)
        have HX := Lib.hid (HDN.out W hS hd1)
        clear hS HUP HDN HC HX2 HY2
        go_wp2_with fail
        go_roundw
        case rel => exact HX.out
        case measure => simp [intOf]; omega
    · obtain rfl : i = j := by omega
      have hij : ¬ (i : Int) < (i : Int) := by omega
      have hst2 := Lib.hid (show U1Rel w base g n cap a i xs (.int .i64 (a : Int)) wr from ⟨a, xs, Nat.le_refl _, by omega, rfl, RotIs.none _ _ _, hrow, hbw⟩)
      have HB := Lib.hid hbs
      have hw4 : IntKind.i64.wrap ((i : Int) - 1) = (i : Int) - 1 := by rw [IntKind.wrap_i64]; omega
      clear hrow hbw hbs hlt
      go_wp2_with fail
      go_loopw [13] (fun k wr => U1Rel w base g n cap a i xs k wr) (fun k _ => i - (intOf k).toNat)
      case atStart => exact hst2.out
      case round =>
        clear hst2
        obtain ⟨p, ys, hap, hpi, rfl, hrot, hrow, hbw⟩ := hrel
        by_cases hlt : p + 1 < i
        · have hpj : (p : Int) < (i : Int) - 1 := by omega
          obtain ⟨q, hpq⟩ : ∃ q, q = p + 1 := ⟨_, rfl⟩
          have hw5 : IntKind.i64.wrap ((p : Int) + 1) = (q : Int) := by rw [IntKind.wrap_i64]; omega
          have hp2 : 0 ≤ (p : Int) ∧ (p : Int) < (n : Int) := by omega
          have hq2 : 0 ≤ (q : Int) ∧ (q : Int) < (n : Int) := by omega
          obtain ⟨dx, kx, sx, tx, qx, cx, lx, Ax, mx, px, ix, hx, hx2⟩ := hrow.get (i := p) (by omega)
          obtain ⟨dy, ky, sy, ty, qy, cy, ly, Ay, my, py, iy, hy, hy2⟩ := hrow.get (i := q) (by omega)
          have h0 : GRow base g n cap ys wr.drew := SRow.below hrow (Below.refl _ _).drew
          have HX := Lib.hid (show U1Rel w base g n cap a i xs (.int .i64 (q : Int)) (set7 (set7 wr.drew g (p * 7) (dy, ⟨⟨ky, sy, ty, qy, cy, ly⟩, Ay, my, py⟩)) g (q * 7) (dx, ⟨⟨kx, sx, tx, qx, cx, lx⟩, Ax, mx, px⟩)) from ⟨q, swapL ys p q, by omega, by omega, rfl, by
            rw [hpq]
            exact hrot.up hap (by rw [HL.out]; omega), h0.swap hx hy, hbw.drew.trans (h0.swapB (by omega) _ _)⟩)
          have HX2 := Lib.hid hx2
          have HY2 := Lib.hid hy2
          have HLN := Lib.hid hrow.len
          have HPQ := Lib.hid hpq
          clear hpq hrow hbw hrot hx hy hx2 hy2
          obtain ⟨W0, hW0⟩ : ∃ W0, wr.drew = W0 := ⟨_, rfl⟩
          rw [hW0] at HX h0
          obtain ⟨x0, x1, x2, x3, x4, x5, x6⟩ := SRow.cells h0 HX2.out
          obtain ⟨y0, y1, y2, y3, y4, y5, y6⟩ := SRow.cells h0 HY2.out
          have T1 := Lib.hid (SRow.there h0 (i := p) (by omega))
          have T2 := Lib.hid (SRow.there (SRow.set h0 (i := p) (by rw [List.length_map, HLN.out]; omega) (dy, ⟨⟨ky, sy, ty, qy, cy, ly⟩, Ay, my, py⟩)) (i := q) (by omega))
          clear h0 HX2 HY2
          go_upto_region 11 with (fail)
          refine wp_region_sw hW0 15 17 [0, 1, 2, 3, 4, 5, 6, 7, 8, 10, 11, 12, 14, 16] (fun i => ([.slice (some ⟨g, 0, none⟩) n cap, .int .i64 p, .slice (some ⟨g, 0, none⟩) n cap, .int .i64 p, .int .i64 q, .slice (some ⟨g, 0, none⟩) n cap, .int .i64 p, .int .i64 q, .pointer (some ⟨g, q * 7, none⟩), .agg #[.int .i64 dy, .int .i64 ky, .int .i64 sy, .int .i64 ty, .int .i64 qy, .int .u32 cy, .slice Ay my py], .slice (some ⟨g, 0, none⟩) n cap, .int .i64 p, .pointer (some ⟨g, p * 7, none⟩), .agg #[.int .i64 dx, .int .i64 kx, .int .i64 sx, .int .i64 tx, .int .i64 qx, .int .u32 cx, .slice Ax mx px], .pointer (some ⟨g, p * 7, none⟩), undef, .pointer (some ⟨g, q * 7, none⟩), undef] : List Value).getD i undef) (w1 := set7 W0 g (p * 7) (dy, ⟨⟨ky, sy, ty, qy, cy, ly⟩, Ay, my, py⟩)) (w2 := set7 (set7 W0 g (p * 7) (dy, ⟨⟨ky, sy, ty, qy, cy, ly⟩, Ay, my, py⟩)) g (q * 7) (dx, ⟨⟨kx, sx, tx, qx, cx, lx⟩, Ax, mx, px⟩)) (by kernel_rfl) (by kernel_rfl) (by kernel_rfl) ?_ ?_ ?_ ?_
          · as_aux_lemma =>
            intro i o hi ho n1 n2 vs hd W hW
            have hi : i < 18 := hi
            rcases i with _ | _ | _ | _ | _ | _ | _ | _ | _ | _ | _ | _ | _ | _ | _ | _ | _ | _ | i
            all_goals first | omega | skip
            all_goals (simp only [List.getElem?_cons_succ, List.getElem?_cons_zero, Option.some.injEq] at ho; subst ho)
            · refine ⟨rfl, ?_⟩
              clear hd hW n1 n2
              unfold lexA
              try simp only [putAll, preI, Nat.reduceLT, Nat.reduceAdd, decide_true, decide_false, Bool.false_eq_true, if_true, if_false, Act.put, List.setIfInBounds_toArray, List.set_cons_zero, List.set_cons_succ]
              go_simp
            · refine ⟨rfl, ?_⟩
              clear hd hW n1 n2
              unfold lexA
              try simp only [putAll, preI, Nat.reduceLT, Nat.reduceAdd, decide_true, decide_false, Bool.false_eq_true, if_true, if_false, Act.put, List.setIfInBounds_toArray, List.set_cons_zero, List.set_cons_succ]
              go_simp
            · refine ⟨rfl, ?_⟩
              clear hd hW n1 n2
              unfold lexA
              try simp only [putAll, preI, Nat.reduceLT, Nat.reduceAdd, decide_true, decide_false, Bool.false_eq_true, if_true, if_false, Act.put, List.setIfInBounds_toArray, List.set_cons_zero, List.set_cons_succ]
              go_simp
            · refine ⟨rfl, ?_⟩
              clear hd hW n1 n2
              unfold lexA
              try simp only [putAll, preI, Nat.reduceLT, Nat.reduceAdd, decide_true, decide_false, Bool.false_eq_true, if_true, if_false, Act.put, List.setIfInBounds_toArray, List.set_cons_zero, List.set_cons_succ]
              go_simp
            · have a3 : vs 3 = .int .i64 p := hd ⟨3, .data⟩ (by simp) rfl (by decide) (by decide)
              refine ⟨rfl, ?_⟩
              clear hd hW n1 n2
              unfold lexA
              try simp only [putAll, preI, Nat.reduceLT, Nat.reduceAdd, decide_true, decide_false, Bool.false_eq_true, if_true, if_false, Act.put, List.setIfInBounds_toArray, List.set_cons_zero, List.set_cons_succ]
              go_simp
            · refine ⟨rfl, ?_⟩
              clear hd hW n1 n2
              unfold lexA
              try simp only [putAll, preI, Nat.reduceLT, Nat.reduceAdd, decide_true, decide_false, Bool.false_eq_true, if_true, if_false, Act.put, List.setIfInBounds_toArray, List.set_cons_zero, List.set_cons_succ]
              go_simp
            · refine ⟨rfl, ?_⟩
              clear hd hW n1 n2
              unfold lexA
              try simp only [putAll, preI, Nat.reduceLT, Nat.reduceAdd, decide_true, decide_false, Bool.false_eq_true, if_true, if_false, Act.put, List.setIfInBounds_toArray, List.set_cons_zero, List.set_cons_succ]
              go_simp
            · have a6 : vs 6 = .int .i64 p := hd ⟨6, .data⟩ (by simp) rfl (by decide) (by decide)
              refine ⟨rfl, ?_⟩
              clear hd hW n1 n2
              unfold lexA
              try simp only [putAll, preI, Nat.reduceLT, Nat.reduceAdd, decide_true, decide_false, Bool.false_eq_true, if_true, if_false, Act.put, List.setIfInBounds_toArray, List.set_cons_zero, List.set_cons_succ]
              go_simp
            · have a5 : vs 5 = .slice (some ⟨g, 0, none⟩) n cap := hd ⟨5, .data⟩ (by simp) rfl (by decide) (by decide)
              have a7 : vs 7 = .int .i64 q := hd ⟨7, .data⟩ (by simp) rfl (by decide) (by decide)
              refine ⟨rfl, ?_⟩
              clear hd hW n1 n2
              unfold lexA
              try simp only [putAll, preI, Nat.reduceLT, Nat.reduceAdd, decide_true, decide_false, Bool.false_eq_true, if_true, if_false, Act.put, List.setIfInBounds_toArray, List.set_cons_zero, List.set_cons_succ]
              go_simp
            · have a8 : vs 8 = .pointer (some ⟨g, q * 7, none⟩) := hd ⟨8, .data⟩ (by simp) rfl (by decide) (by decide)
              obtain rfl := hW rfl
              refine ⟨rfl, ?_⟩
              clear hd n1 n2
              unfold lexA
              try simp only [putAll, preI, Nat.reduceLT, Nat.reduceAdd, decide_true, decide_false, Bool.false_eq_true, if_true, if_false, Act.put, List.setIfInBounds_toArray, List.set_cons_zero, List.set_cons_succ]
              go_simp
            · refine ⟨rfl, ?_⟩
              clear hd hW n1 n2
              unfold lexA
              try simp only [putAll, preI, Nat.reduceLT, Nat.reduceAdd, decide_true, decide_false, Bool.false_eq_true, if_true, if_false, Act.put, List.setIfInBounds_toArray, List.set_cons_zero, List.set_cons_succ]
              go_simp
            · refine ⟨rfl, ?_⟩
              clear hd hW n1 n2
              unfold lexA
              try simp only [putAll, preI, Nat.reduceLT, Nat.reduceAdd, decide_true, decide_false, Bool.false_eq_true, if_true, if_false, Act.put, List.setIfInBounds_toArray, List.set_cons_zero, List.set_cons_succ]
              go_simp
            · have a10 : vs 10 = .slice (some ⟨g, 0, none⟩) n cap := hd ⟨10, .data⟩ (by simp) rfl (by decide) (by decide)
              have a11 : vs 11 = .int .i64 p := hd ⟨11, .data⟩ (by simp) rfl (by decide) (by decide)
              refine ⟨rfl, ?_⟩
              clear hd hW n1 n2
              unfold lexA
              try simp only [putAll, preI, Nat.reduceLT, Nat.reduceAdd, decide_true, decide_false, Bool.false_eq_true, if_true, if_false, Act.put, List.setIfInBounds_toArray, List.set_cons_zero, List.set_cons_succ]
              go_simp
            · have a12 : vs 12 = .pointer (some ⟨g, p * 7, none⟩) := hd ⟨12, .data⟩ (by simp) rfl (by decide) (by decide)
              obtain rfl := hW rfl
              refine ⟨rfl, ?_⟩
              clear hd n1 n2
              unfold lexA
              try simp only [putAll, preI, Nat.reduceLT, Nat.reduceAdd, decide_true, decide_false, Bool.false_eq_true, if_true, if_false, Act.put, List.setIfInBounds_toArray, List.set_cons_zero, List.set_cons_succ]
              go_simp
            · have a0 : vs 0 = .slice (some ⟨g, 0, none⟩) n cap := hd ⟨0, .data⟩ (by simp) rfl (by decide) (by decide)
              have a1 : vs 1 = .int .i64 p := hd ⟨1, .data⟩ (by simp) rfl (by decide) (by decide)
              refine ⟨rfl, ?_⟩
              clear hd hW n1 n2
              unfold lexA
              try simp only [putAll, preI, Nat.reduceLT, Nat.reduceAdd, decide_true, decide_false, Bool.false_eq_true, if_true, if_false, Act.put, List.setIfInBounds_toArray, List.set_cons_zero, List.set_cons_succ]
              go_simp
            · have a2 : vs 2 = .slice (some ⟨g, 0, none⟩) n cap := hd ⟨2, .data⟩ (by simp) rfl (by decide) (by decide)
              have a4 : vs 4 = .int .i64 q := hd ⟨4, .data⟩ (by simp) rfl (by decide) (by decide)
              refine ⟨rfl, ?_⟩
              clear hd hW n1 n2
              unfold lexA
              try simp only [putAll, preI, Nat.reduceLT, Nat.reduceAdd, decide_true, decide_false, Bool.false_eq_true, if_true, if_false, Act.put, List.setIfInBounds_toArray, List.set_cons_zero, List.set_cons_succ]
              go_simp
          · as_aux_lemma =>
            intro o ho vs hd
            simp only [List.getElem?_cons_succ, List.getElem?_cons_zero, Option.some.injEq] at ho
            subst ho
            have a9 : vs 9 = .agg #[.int .i64 dy, .int .i64 ky, .int .i64 sy, .int .i64 ty, .int .i64 qy, .int .u32 cy, .slice Ay my py] := hd ⟨9, .data⟩ (by simp) rfl (by decide) (by decide)
            have a14 : vs 14 = .pointer (some ⟨g, p * 7, none⟩) := hd ⟨14, .data⟩ (by simp) rfl (by decide) (by decide)
            refine ⟨rfl, exec_store7 (e := (dy, ⟨⟨ky, sy, ty, qy, cy, ly⟩, Ay, my, py⟩)) rfl ?_ ?_ T1.out⟩
            · clear hd
              unfold lexA
              try simp only [putAll, preI, Nat.reduceLT, Nat.reduceAdd, decide_true, decide_false, Bool.false_eq_true, if_true, if_false, Act.put, List.setIfInBounds_toArray, List.set_cons_zero, List.set_cons_succ]
              rw [a14]
              rfl
            · clear hd
              unfold lexA
              try simp only [putAll, preI, Nat.reduceLT, Nat.reduceAdd, decide_true, decide_false, Bool.false_eq_true, if_true, if_false, Act.put, List.setIfInBounds_toArray, List.set_cons_zero, List.set_cons_succ]
              rw [a9]
              rfl
          · as_aux_lemma =>
            intro o ho vs hd
            simp only [List.getElem?_cons_succ, List.getElem?_cons_zero, Option.some.injEq] at ho
            subst ho
            have a13 : vs 13 = .agg #[.int .i64 dx, .int .i64 kx, .int .i64 sx, .int .i64 tx, .int .i64 qx, .int .u32 cx, .slice Ax mx px] := hd ⟨13, .data⟩ (by simp) rfl (by decide) (by decide)
            have a16 : vs 16 = .pointer (some ⟨g, q * 7, none⟩) := hd ⟨16, .data⟩ (by simp) rfl (by decide) (by decide)
            refine ⟨rfl, exec_store7 (e := (dx, ⟨⟨kx, sx, tx, qx, cx, lx⟩, Ax, mx, px⟩)) rfl ?_ ?_ T2.out⟩
            · clear hd
              unfold lexA
              try simp only [putAll, preI, Nat.reduceLT, Nat.reduceAdd, decide_true, decide_false, Bool.false_eq_true, if_true, if_false, Act.put, List.setIfInBounds_toArray, List.set_cons_zero, List.set_cons_succ]
              rw [a16]
              rfl
            · clear hd
              unfold lexA
              try simp only [putAll, preI, Nat.reduceLT, Nat.reduceAdd, decide_true, decide_false, Bool.false_eq_true, if_true, if_false, Act.put, List.setIfInBounds_toArray, List.set_cons_zero, List.set_cons_succ]
              rw [a13]
              rfl
          clear x0 x1 x2 x3 x4 x5 x6 y0 y1 y2 y3 y4 y5 y6 T1 T2
          intro vs hv
          generalize set7 (set7 W0 g (p * 7) (dy, ⟨⟨ky, sy, ty, qy, cy, ly⟩, Ay, my, py⟩)) g (q * 7) (dx, ⟨⟨kx, sx, tx, qx, cx, lx⟩, Ax, mx, px⟩) = W2 at HX ⊢
          unfold lexA
          simp only [putAll, preI, Nat.reduceLT, Nat.reduceAdd, decide_true, decide_false, Bool.false_eq_true, if_true, if_false, Act.put, List.setIfInBounds_toArray, List.set_cons_zero, List.set_cons_succ, List.drop_succ_cons, List.drop_zero]
          clear hv
          go_wp2_with fail
          go_roundw
          case rel => exact HX.out
          case measure => have := HPQ.out; simp [intOf]; omega
        · obtain rfl : i = p + 1 := by omega
          have hpj : ¬ (p : Int) < ((p + 1 : Nat) : Int) - 1 := by omega
          have HX := Lib.hid (show ∃ ys, MPost dueE a b xs ys ∧ GRow base g n cap ys wr ∧ GroW g w wr from ⟨ys, HP.out.one1 ⟨hai, hjb⟩ HB.out.c1 HB.out.c2 hrot, hrow, hbw⟩)
          clear hrow hbw hrot
          go_wp2_with fail
          refine bodyPost_ret (results_none rfl _ _ _) rfl ?_
          exact ⟨rfl, HX.out⟩
end Go.Proofs.Ytpnefacignalpaa
