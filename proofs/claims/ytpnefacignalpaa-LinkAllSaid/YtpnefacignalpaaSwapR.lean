/- slices.swapRangeCmpFunc at sent messages. Conditions: those typed. -/
import Derived.Test.YtpnefacignalpaaSent
namespace Go.Proofs.Ytpnefacignalpaa
open Go.RowKit Go.Gy
set_option linter.unusedVariables false
set_option linter.unusedSimpArgs false
/-- a row of sent messages, each with a number of its own (no cell holds it) -/
def GRow (base g n cap : Nat) (zs : List (SE × Nat)) (W : World) : Prop := SRow base g n cap (zs.map Prod.fst) W
theorem GRow.len {base g n cap : Nat} {zs : List (SE × Nat)} {W : World} (h : GRow base g n cap zs W) : zs.length = n := by have := h.2; rwa [List.length_map] at this
theorem GRow.get {base g n cap : Nat} {zs : List (SE × Nat)} {W : World} (h : GRow base g n cap zs W) {i : Nat} (hi : i < n) : ∃ d k s t q c cs A m p ix, zs[i]? = some ((d, ⟨⟨k, s, t, q, c, cs⟩, A, m, p⟩), ix) ∧ (zs.map Prod.fst)[i]? = some (d, ⟨⟨k, s, t, q, c, cs⟩, A, m, p⟩) := by
  obtain ⟨⟨⟨d, ⟨⟨k, s, t, q, c, cs⟩, A, m, p⟩⟩, ix⟩, hx⟩ : ∃ x, zs[i]? = some x := ⟨_, List.getElem?_eq_getElem (by rw [h.len]; exact hi)⟩
  exact ⟨d, k, s, t, q, c, cs, A, m, p, ix, hx, by rw [List.getElem?_map, hx]; rfl⟩
theorem GRow.swap {base g n cap : Nat} {zs : List (SE × Nat)} {W : World} (h : GRow base g n cap zs W) {p q ix iy : Nat} {x y : SE} (hx : zs[p]? = some (x, ix)) (hy : zs[q]? = some (y, iy)) : GRow base g n cap (swapL zs p q) (set7 (set7 W g (p * 7) y) g (q * 7) x) := by
  rw [swapL_eq hx hy]
  unfold GRow
  rw [List.map_set, List.map_set]
  have hp := (List.getElem?_eq_some_iff.1 hx).1
  have hq := (List.getElem?_eq_some_iff.1 hy).1
  exact SRow.set (SRow.set h (by rw [List.length_map]; exact hp) y) (by rw [List.length_set, List.length_map]; exact hq) x
theorem GRow.swapB {base g n cap : Nat} {zs : List (SE × Nat)} {W : World} (h : GRow base g n cap zs W) {p q : Nat} (hp : p < n) (x y : SE) : GroW g W (set7 (set7 W g (p * 7) y) g (q * 7) x) :=
  (SRow.belowSet h _ _).trans (SRow.belowSet (SRow.set h (by rw [List.length_map, h.len]; exact hp) y) _ _)
def SwRel (w : World) (base g n cap a b k : Nat) (xs : List (SE × Nat)) (i : Value) (wr : World) : Prop := ∃ (t : Nat) (ys : List (SE × Nat)), t ≤ k ∧ i = .int .i64 t ∧ SwR a b t xs ys ∧ GRow base g n cap ys wr ∧ GroW g w wr
set_option maxRecDepth 100000 in
set_option maxHeartbeats 4000000 in
theorem swaprange_any (w : World) (base g n cap : Nat) (xs : List (SE × Nat)) (a b k : Nat) (fv : Value) (h : GRow base g n cap xs w) (hab : a + k ≤ b) (hb : b + k ≤ n) (hn : n ≤ 1000000) :
    Calls Try.prog 50 #[.slice (some ⟨g, 0, none⟩) n cap, .int .i64 a, .int .i64 b, .int .i64 k, fv] w fun e w' => e = .returned (.tuple #[]) ∧ ∃ ys, SwR a b k xs ys ∧ GRow base g n cap ys w' ∧ GroW g w w' := by
  have HL := Lib.hid h.len
  have hst := Lib.hid (show SwRel w base g n cap a b k xs (.int .i64 0) w from ⟨0, xs, Nat.zero_le _, rfl, SwR.zero _ _ _, h, GroW.refl _ _⟩)
  clear h
  go_enter Try.func50, Try.ntmps50
  go_wp2_with fail
  go_loopw [10] (fun i wr => SwRel w base g n cap a b k xs i wr) (fun i _ => k - (intOf i).toNat)
  case atStart => exact hst.out
  case round =>
    clear hst
    obtain ⟨t, ys, ht, rfl, hsw, hrow, hbw⟩ := hrel
    by_cases hin : t < k
    · have hi1 : (t : Int) < (k : Int) := by omega
      obtain ⟨p, hp⟩ : ∃ p, p = a + t := ⟨_, rfl⟩
      obtain ⟨q, hq⟩ : ∃ q, q = b + t := ⟨_, rfl⟩
      have hw1 : IntKind.i64.wrap ((a : Int) + (t : Int)) = (p : Int) := by rw [IntKind.wrap_i64]; omega
      have hw2 : IntKind.i64.wrap ((b : Int) + (t : Int)) = (q : Int) := by rw [IntKind.wrap_i64]; omega
      have hw3 : IntKind.i64.wrap ((t : Int) + 1) = (t : Int) + 1 := by rw [IntKind.wrap_i64]; omega
      have hp2 : 0 ≤ (p : Int) ∧ (p : Int) < (n : Int) := by omega
      have hq2 : 0 ≤ (q : Int) ∧ (q : Int) < (n : Int) := by omega
      obtain ⟨dx, kx, sx, tx, qx, cx, lx, Ax, mx, px, ix, hx, hx2⟩ := hrow.get (i := p) (by omega)
      obtain ⟨dy, ky, sy, ty, qy, cy, ly, Ay, my, py, iy, hy, hy2⟩ := hrow.get (i := q) (by omega)
      have HX := Lib.hid (show SwRel w base g n cap a b k xs (.int .i64 ((t : Int) + 1)) (set7 (set7 wr.drew g (p * 7) (dy, ⟨⟨ky, sy, ty, qy, cy, ly⟩, Ay, my, py⟩)) g (q * 7) (dx, ⟨⟨kx, sx, tx, qx, cx, lx⟩, Ax, mx, px⟩)) from by
        have h1 : GRow base g n cap ys wr.drew := SRow.below hrow (Below.refl _ _).drew
        refine ⟨t + 1, swapL ys p q, hin, by simp, ?_, h1.swap hx hy, (hbw.drew).trans (h1.swapB (by omega) _ _)⟩
        rw [hp, hq]
        exact hsw.step hin hab (by rw [HL.out]; exact hb))
      have h0 : GRow base g n cap ys wr.drew := SRow.below hrow (Below.refl _ _).drew
      obtain ⟨W0, hW0⟩ : ∃ W0, wr.drew = W0 := ⟨_, rfl⟩
      rw [hW0] at HX h0
      obtain ⟨x0, x1, x2, x3, x4, x5, x6⟩ := SRow.cells h0 hx2
      obtain ⟨y0, y1, y2, y3, y4, y5, y6⟩ := SRow.cells h0 hy2
      have T1 := Lib.hid (SRow.there h0 (i := p) (by omega))
      have T2 := Lib.hid (SRow.there (SRow.set h0 (i := p) (by rw [List.length_map, h0.len]; omega) (dy, ⟨⟨ky, sy, ty, qy, cy, ly⟩, Ay, my, py⟩)) (i := q) (by omega))
      clear hsw hrow hbw hx hx2 hy hy2 h0 hp hq
      go_upto_region 3 with (fail)
      refine wp_region_sw hW0 21 23 [0, 1, 2, 3, 4, 5, 6, 7, 8, 9, 10, 11, 12, 14, 15, 16, 17, 18, 20, 22] (fun i => ([.slice (some ⟨g, 0, none⟩) n cap, .int .i64 a, .int .i64 t, .int .i64 p, .slice (some ⟨g, 0, none⟩) n cap, .int .i64 b, .int .i64 t, .int .i64 q, .slice (some ⟨g, 0, none⟩) n cap, .int .i64 b, .int .i64 t, .int .i64 q, .pointer (some ⟨g, q * 7, none⟩), .agg #[.int .i64 dy, .int .i64 ky, .int .i64 sy, .int .i64 ty, .int .i64 qy, .int .u32 cy, .slice Ay my py], .slice (some ⟨g, 0, none⟩) n cap, .int .i64 a, .int .i64 t, .int .i64 p, .pointer (some ⟨g, p * 7, none⟩), .agg #[.int .i64 dx, .int .i64 kx, .int .i64 sx, .int .i64 tx, .int .i64 qx, .int .u32 cx, .slice Ax mx px], .pointer (some ⟨g, p * 7, none⟩), undef, .pointer (some ⟨g, q * 7, none⟩), undef] : List Value).getD i undef) (w1 := set7 W0 g (p * 7) (dy, ⟨⟨ky, sy, ty, qy, cy, ly⟩, Ay, my, py⟩)) (w2 := set7 (set7 W0 g (p * 7) (dy, ⟨⟨ky, sy, ty, qy, cy, ly⟩, Ay, my, py⟩)) g (q * 7) (dx, ⟨⟨kx, sx, tx, qx, cx, lx⟩, Ax, mx, px⟩)) (by kernel_rfl) (by kernel_rfl) (by kernel_rfl) ?_ ?_ ?_ ?_
      · as_aux_lemma =>
        intro i o hi ho n1 n2 vs hd W hW
        have hi : i < 24 := hi
        rcases i with _ | _ | _ | _ | _ | _ | _ | _ | _ | _ | _ | _ | _ | _ | _ | _ | _ | _ | _ | _ | _ | _ | _ | _ | i
        all_goals first | omega | skip
        all_goals (simp only [List.getElem?_cons_succ, List.getElem?_cons_zero, Option.some.injEq] at ho; subst ho)
        · refine ⟨rfl, ?_⟩
          clear hd hW n1 n2
          unfold lexA
          try simp only [putAll, preI, Nat.reduceLT, Nat.reduceAdd, decide_true, decide_false, Bool.false_eq_true, if_true, if_false, Act.put, List.setIfInBounds_toArray, List.set_cons_zero, List.set_cons_succ]
          go_simp
        · refine ⟨rfl, ?_⟩
          clear hd hW n1 n2
          unfold lexA
          try simp only [putAll, preI, Nat.reduceLT, Nat.reduceAdd, decide_true, decide_false, Bool.false_eq_true, if_true, if_false, Act.put, List.setIfInBounds_toArray, List.set_cons_zero, List.set_cons_succ]
          go_simp
        · refine ⟨rfl, ?_⟩
          clear hd hW n1 n2
          unfold lexA
          try simp only [putAll, preI, Nat.reduceLT, Nat.reduceAdd, decide_true, decide_false, Bool.false_eq_true, if_true, if_false, Act.put, List.setIfInBounds_toArray, List.set_cons_zero, List.set_cons_succ]
          go_simp
        · have a1 : vs 1 = .int .i64 a := hd ⟨1, .data⟩ (by simp) rfl (by decide) (by decide)
          have a2 : vs 2 = .int .i64 t := hd ⟨2, .data⟩ (by simp) rfl (by decide) (by decide)
          refine ⟨rfl, ?_⟩
          clear hd hW n1 n2
          unfold lexA
          try simp only [putAll, preI, Nat.reduceLT, Nat.reduceAdd, decide_true, decide_false, Bool.false_eq_true, if_true, if_false, Act.put, List.setIfInBounds_toArray, List.set_cons_zero, List.set_cons_succ]
          go_simp
        · refine ⟨rfl, ?_⟩
          clear hd hW n1 n2
          unfold lexA
          try simp only [putAll, preI, Nat.reduceLT, Nat.reduceAdd, decide_true, decide_false, Bool.false_eq_true, if_true, if_false, Act.put, List.setIfInBounds_toArray, List.set_cons_zero, List.set_cons_succ]
          go_simp
        · refine ⟨rfl, ?_⟩
          clear hd hW n1 n2
          unfold lexA
          try simp only [putAll, preI, Nat.reduceLT, Nat.reduceAdd, decide_true, decide_false, Bool.false_eq_true, if_true, if_false, Act.put, List.setIfInBounds_toArray, List.set_cons_zero, List.set_cons_succ]
          go_simp
        · refine ⟨rfl, ?_⟩
          clear hd hW n1 n2
          unfold lexA
          try simp only [putAll, preI, Nat.reduceLT, Nat.reduceAdd, decide_true, decide_false, Bool.false_eq_true, if_true, if_false, Act.put, List.setIfInBounds_toArray, List.set_cons_zero, List.set_cons_succ]
          go_simp
        · have a5 : vs 5 = .int .i64 b := hd ⟨5, .data⟩ (by simp) rfl (by decide) (by decide)
          have a6 : vs 6 = .int .i64 t := hd ⟨6, .data⟩ (by simp) rfl (by decide) (by decide)
          refine ⟨rfl, ?_⟩
          clear hd hW n1 n2
          unfold lexA
          try simp only [putAll, preI, Nat.reduceLT, Nat.reduceAdd, decide_true, decide_false, Bool.false_eq_true, if_true, if_false, Act.put, List.setIfInBounds_toArray, List.set_cons_zero, List.set_cons_succ]
          go_simp
        · refine ⟨rfl, ?_⟩
          clear hd hW n1 n2
          unfold lexA
          try simp only [putAll, preI, Nat.reduceLT, Nat.reduceAdd, decide_true, decide_false, Bool.false_eq_true, if_true, if_false, Act.put, List.setIfInBounds_toArray, List.set_cons_zero, List.set_cons_succ]
          go_simp
        · refine ⟨rfl, ?_⟩
          clear hd hW n1 n2
          unfold lexA
          try simp only [putAll, preI, Nat.reduceLT, Nat.reduceAdd, decide_true, decide_false, Bool.false_eq_true, if_true, if_false, Act.put, List.setIfInBounds_toArray, List.set_cons_zero, List.set_cons_succ]
          go_simp
        · refine ⟨rfl, ?_⟩
          clear hd hW n1 n2
          unfold lexA
          try simp only [putAll, preI, Nat.reduceLT, Nat.reduceAdd, decide_true, decide_false, Bool.false_eq_true, if_true, if_false, Act.put, List.setIfInBounds_toArray, List.set_cons_zero, List.set_cons_succ]
          go_simp
        · have a9 : vs 9 = .int .i64 b := hd ⟨9, .data⟩ (by simp) rfl (by decide) (by decide)
          have a10 : vs 10 = .int .i64 t := hd ⟨10, .data⟩ (by simp) rfl (by decide) (by decide)
          refine ⟨rfl, ?_⟩
          clear hd hW n1 n2
          unfold lexA
          try simp only [putAll, preI, Nat.reduceLT, Nat.reduceAdd, decide_true, decide_false, Bool.false_eq_true, if_true, if_false, Act.put, List.setIfInBounds_toArray, List.set_cons_zero, List.set_cons_succ]
          go_simp
        · have a8 : vs 8 = .slice (some ⟨g, 0, none⟩) n cap := hd ⟨8, .data⟩ (by simp) rfl (by decide) (by decide)
          have a11 : vs 11 = .int .i64 q := hd ⟨11, .data⟩ (by simp) rfl (by decide) (by decide)
          refine ⟨rfl, ?_⟩
          clear hd hW n1 n2
          unfold lexA
          try simp only [putAll, preI, Nat.reduceLT, Nat.reduceAdd, decide_true, decide_false, Bool.false_eq_true, if_true, if_false, Act.put, List.setIfInBounds_toArray, List.set_cons_zero, List.set_cons_succ]
          go_simp
        · have a12 : vs 12 = .pointer (some ⟨g, q * 7, none⟩) := hd ⟨12, .data⟩ (by simp) rfl (by decide) (by decide)
          obtain rfl := hW rfl
          refine ⟨rfl, ?_⟩
          clear hd n1 n2
          unfold lexA
          try simp only [putAll, preI, Nat.reduceLT, Nat.reduceAdd, decide_true, decide_false, Bool.false_eq_true, if_true, if_false, Act.put, List.setIfInBounds_toArray, List.set_cons_zero, List.set_cons_succ]
          go_simp
        · refine ⟨rfl, ?_⟩
          clear hd hW n1 n2
          unfold lexA
          try simp only [putAll, preI, Nat.reduceLT, Nat.reduceAdd, decide_true, decide_false, Bool.false_eq_true, if_true, if_false, Act.put, List.setIfInBounds_toArray, List.set_cons_zero, List.set_cons_succ]
          go_simp
        · refine ⟨rfl, ?_⟩
          clear hd hW n1 n2
          unfold lexA
          try simp only [putAll, preI, Nat.reduceLT, Nat.reduceAdd, decide_true, decide_false, Bool.false_eq_true, if_true, if_false, Act.put, List.setIfInBounds_toArray, List.set_cons_zero, List.set_cons_succ]
          go_simp
        · refine ⟨rfl, ?_⟩
          clear hd hW n1 n2
          unfold lexA
          try simp only [putAll, preI, Nat.reduceLT, Nat.reduceAdd, decide_true, decide_false, Bool.false_eq_true, if_true, if_false, Act.put, List.setIfInBounds_toArray, List.set_cons_zero, List.set_cons_succ]
          go_simp
        · have a15 : vs 15 = .int .i64 a := hd ⟨15, .data⟩ (by simp) rfl (by decide) (by decide)
          have a16 : vs 16 = .int .i64 t := hd ⟨16, .data⟩ (by simp) rfl (by decide) (by decide)
          refine ⟨rfl, ?_⟩
          clear hd hW n1 n2
          unfold lexA
          try simp only [putAll, preI, Nat.reduceLT, Nat.reduceAdd, decide_true, decide_false, Bool.false_eq_true, if_true, if_false, Act.put, List.setIfInBounds_toArray, List.set_cons_zero, List.set_cons_succ]
          go_simp
        · have a14 : vs 14 = .slice (some ⟨g, 0, none⟩) n cap := hd ⟨14, .data⟩ (by simp) rfl (by decide) (by decide)
          have a17 : vs 17 = .int .i64 p := hd ⟨17, .data⟩ (by simp) rfl (by decide) (by decide)
          refine ⟨rfl, ?_⟩
          clear hd hW n1 n2
          unfold lexA
          try simp only [putAll, preI, Nat.reduceLT, Nat.reduceAdd, decide_true, decide_false, Bool.false_eq_true, if_true, if_false, Act.put, List.setIfInBounds_toArray, List.set_cons_zero, List.set_cons_succ]
          go_simp
        · have a18 : vs 18 = .pointer (some ⟨g, p * 7, none⟩) := hd ⟨18, .data⟩ (by simp) rfl (by decide) (by decide)
          obtain rfl := hW rfl
          refine ⟨rfl, ?_⟩
          clear hd n1 n2
          unfold lexA
          try simp only [putAll, preI, Nat.reduceLT, Nat.reduceAdd, decide_true, decide_false, Bool.false_eq_true, if_true, if_false, Act.put, List.setIfInBounds_toArray, List.set_cons_zero, List.set_cons_succ]
          go_simp
        · have a0 : vs 0 = .slice (some ⟨g, 0, none⟩) n cap := hd ⟨0, .data⟩ (by simp) rfl (by decide) (by decide)
          have a3 : vs 3 = .int .i64 p := hd ⟨3, .data⟩ (by simp) rfl (by decide) (by decide)
          refine ⟨rfl, ?_⟩
          clear hd hW n1 n2
          unfold lexA
          try simp only [putAll, preI, Nat.reduceLT, Nat.reduceAdd, decide_true, decide_false, Bool.false_eq_true, if_true, if_false, Act.put, List.setIfInBounds_toArray, List.set_cons_zero, List.set_cons_succ]
          go_simp
        · have a4 : vs 4 = .slice (some ⟨g, 0, none⟩) n cap := hd ⟨4, .data⟩ (by simp) rfl (by decide) (by decide)
          have a7 : vs 7 = .int .i64 q := hd ⟨7, .data⟩ (by simp) rfl (by decide) (by decide)
          refine ⟨rfl, ?_⟩
          clear hd hW n1 n2
          unfold lexA
          try simp only [putAll, preI, Nat.reduceLT, Nat.reduceAdd, decide_true, decide_false, Bool.false_eq_true, if_true, if_false, Act.put, List.setIfInBounds_toArray, List.set_cons_zero, List.set_cons_succ]
          go_simp
      · as_aux_lemma =>
        intro o ho vs hd
        simp only [List.getElem?_cons_succ, List.getElem?_cons_zero, Option.some.injEq] at ho
        subst ho
        have a13 : vs 13 = .agg #[.int .i64 dy, .int .i64 ky, .int .i64 sy, .int .i64 ty, .int .i64 qy, .int .u32 cy, .slice Ay my py] := hd ⟨13, .data⟩ (by simp) rfl (by decide) (by decide)
        have a20 : vs 20 = .pointer (some ⟨g, p * 7, none⟩) := hd ⟨20, .data⟩ (by simp) rfl (by decide) (by decide)
        refine ⟨rfl, exec_store7 (e := (dy, ⟨⟨ky, sy, ty, qy, cy, ly⟩, Ay, my, py⟩)) rfl ?_ ?_ T1.out⟩
        · clear hd
          unfold lexA
          try simp only [putAll, preI, Nat.reduceLT, Nat.reduceAdd, decide_true, decide_false, Bool.false_eq_true, if_true, if_false, Act.put, List.setIfInBounds_toArray, List.set_cons_zero, List.set_cons_succ]
          rw [a20]
          rfl
        · clear hd
          unfold lexA
          try simp only [putAll, preI, Nat.reduceLT, Nat.reduceAdd, decide_true, decide_false, Bool.false_eq_true, if_true, if_false, Act.put, List.setIfInBounds_toArray, List.set_cons_zero, List.set_cons_succ]
          rw [a13]
          rfl
      · as_aux_lemma =>
        intro o ho vs hd
        simp only [List.getElem?_cons_succ, List.getElem?_cons_zero, Option.some.injEq] at ho
        subst ho
        have a19 : vs 19 = .agg #[.int .i64 dx, .int .i64 kx, .int .i64 sx, .int .i64 tx, .int .i64 qx, .int .u32 cx, .slice Ax mx px] := hd ⟨19, .data⟩ (by simp) rfl (by decide) (by decide)
        have a22 : vs 22 = .pointer (some ⟨g, q * 7, none⟩) := hd ⟨22, .data⟩ (by simp) rfl (by decide) (by decide)
        refine ⟨rfl, exec_store7 (e := (dx, ⟨⟨kx, sx, tx, qx, cx, lx⟩, Ax, mx, px⟩)) rfl ?_ ?_ T2.out⟩
        · clear hd
          unfold lexA
          try simp only [putAll, preI, Nat.reduceLT, Nat.reduceAdd, decide_true, decide_false, Bool.false_eq_true, if_true, if_false, Act.put, List.setIfInBounds_toArray, List.set_cons_zero, List.set_cons_succ]
          rw [a22]
          rfl
        · clear hd
          unfold lexA
          try simp only [putAll, preI, Nat.reduceLT, Nat.reduceAdd, decide_true, decide_false, Bool.false_eq_true, if_true, if_false, Act.put, List.setIfInBounds_toArray, List.set_cons_zero, List.set_cons_succ]
          rw [a19]
          rfl
      clear x0 x1 x2 x3 x4 x5 x6 y0 y1 y2 y3 y4 y5 y6 T1 T2
      intro vs hv
      generalize set7 (set7 W0 g (p * 7) (dy, ⟨⟨ky, sy, ty, qy, cy, ly⟩, Ay, my, py⟩)) g (q * 7) (dx, ⟨⟨kx, sx, tx, qx, cx, lx⟩, Ax, mx, px⟩) = W2 at HX ⊢
      unfold lexA
      simp only [putAll, preI, Nat.reduceLT, Nat.reduceAdd, decide_true, decide_false, Bool.false_eq_true, if_true, if_false, Act.put, List.setIfInBounds_toArray, List.set_cons_zero, List.set_cons_succ, List.drop_succ_cons, List.drop_zero]
      clear hv
      go_wp2_with fail
      go_roundw
      case rel => exact HX.out
      case measure => simp [intOf]; omega
    · obtain rfl : t = k := by omega
      have hi1 : ¬ (t : Int) < (t : Int) := by omega
      have HX := Lib.hid (show ∃ ys, SwR a b t xs ys ∧ GRow base g n cap ys wr ∧ GroW g w wr from ⟨ys, hsw, hrow, hbw⟩)
      clear hsw hrow hbw
      go_wp2_with fail
      go_end0
      exact ⟨rfl, HX.out⟩
end Go.Proofs.Ytpnefacignalpaa
