/- slices.insertionSortCmpFunc at sent messages. Conditions: those typed. -/
import Derived.Test.YtpnefacignalpaaStabA
namespace Go.Proofs.Ytpnefacignalpaa
open Go.RowKit Go.Gy
set_option linter.unusedVariables false
set_option linter.unusedSimpArgs false
abbrev dueE : SE → Int := Prod.fst
/-- each element of the list has a due that is no great number -/
def DuesOk (zs : List (SE × Nat)) : Prop := ∀ z ∈ zs, DueOk z.1
theorem DuesOk.perm {xs ys : List (SE × Nat)} (h : DuesOk xs) (p : ys.Perm xs) : DuesOk ys := fun z hz => h z (p.mem_iff.1 hz)
theorem DuesOk.get {xs : List (SE × Nat)} (h : DuesOk xs) {i : Nat} {x : SE × Nat} (hx : xs[i]? = some x) : DueOk x.1 := h x (List.mem_of_getElem? hx)
def IsRel (w : World) (base g n cap a b : Nat) (xs : List (SE × Nat)) (i : Value) (wr : World) : Prop := ∃ (t : Nat) (ys : List (SE × Nat)), a + 1 ≤ t ∧ t ≤ max b (a + 1) ∧ i = .int .i64 t ∧ InsO dueE a b t ys ∧ Seg a b xs ys ∧ GRow base g n cap ys wr ∧ GroW g w wr
def IsIn (w : World) (base g n cap a b t : Nat) (xs : List (SE × Nat)) (j : Value) (wr : World) : Prop := ∃ (s : Nat) (ys : List (SE × Nat)), a ≤ s ∧ s ≤ t ∧ j = .int .i64 s ∧ InsI dueE a b t s ys ∧ Seg a b xs ys ∧ GRow base g n cap ys wr ∧ GroW g w wr
theorem IsIn.done {w : World} {base g n cap a b t s : Nat} {xs ys : List (SE × Nat)} {wr : World} (h1 : InsI dueE a b t s ys) (h2 : Seg a b xs ys) (h3 : GRow base g n cap ys wr) (h4 : GroW g w wr) (ha : a + 1 ≤ t) (hst : s ≤ t) (htb : t < b) (hd : ∀ x y, a < s → ys[s]? = some x → ys[s - 1]? = some y → ¬ dueE x.1 < dueE y.1) : IsRel w base g n cap a b xs (.int .i64 ((t : Int) + 1)) wr :=
  ⟨t + 1, ys, by omega, by omega, by simp, h1.done hst hd, h2, h3, h4⟩
theorem IsIn.step {w : World} {base g n cap a b t p q ix iy : Nat} {xs ys : List (SE × Nat)} {x y : SE} {wr : World} (h1 : InsI dueE a b t p ys) (h2 : Seg a b xs ys) (h3 : GRow base g n cap ys wr) (h4 : GroW g w wr) (haq : a ≤ q) (hpq : p = q + 1) (hpt : p ≤ t) (htb : t < b) (hbn : b ≤ n) (hx : ys[p]? = some (x, ix)) (hy : ys[q]? = some (y, iy)) (hd : x.1 < y.1) : IsIn w base g n cap a b t xs (.int .i64 (q : Int)) (set7 (set7 wr g (p * 7) y) g (q * 7) x) := by
  subst hpq
  exact ⟨q, swapL ys (q + 1) q, haq, by omega, rfl, h1.step haq hpt hx hy hd, h2.trans (swapL_seg ⟨by omega, by omega⟩ ⟨haq, by omega⟩), h3.swap hx hy, h4.trans (h3.swapB (by omega) _ _)⟩
set_option maxRecDepth 100000 in
set_option maxHeartbeats 4000000 in
theorem insertion_any (w : World) (base g n cap : Nat) (xs : List (SE × Nat)) (a b : Nat) (h : GRow base g n cap xs w) (hd : DuesOk xs) (hab : a ≤ b) (hb : b ≤ n) (hn : n ≤ 1000000)
    (hix : ∀ q r x y, a ≤ q → q < r → r < b → xs[q]? = some x → xs[r]? = some y → x.2 < y.2) :
    Calls Try.prog 45 #[.slice (some ⟨g, 0, none⟩) n cap, .int .i64 a, .int .i64 b, .func (.func 36) #[] #[]] w fun e w' => e = .returned (.tuple #[]) ∧ ∃ ys, MPost dueE a b xs ys ∧ GRow base g n cap ys w' ∧ GroW g w w' := by
  have hst := Lib.hid (show IsRel w base g n cap a b xs (.int .i64 ((a : Int) + 1)) w from ⟨a + 1, xs, Nat.le_refl _, by omega, by simp, ⟨OrdOn.short (Nat.le_refl _), fun q r x y h1 h2 h3 h4 => hix q r x y h1 h2 h4⟩, Seg.refl _ _ _, h, GroW.refl _ _⟩)
  have hw1 : IntKind.i64.wrap ((a : Int) + 1) = (a : Int) + 1 := by rw [IntKind.wrap_i64]; omega
  have HD := Lib.hid hd
  clear h hix hd
  go_enter Try.func45, Try.ntmps45
  go_wp2_with fail
  go_loopw [8] (fun i wr => IsRel w base g n cap a b xs i wr) (fun i _ => b + 1 - (intOf i).toNat)
  case atStart => exact hst.out
  case round =>
    clear hst hw1
    obtain ⟨t, ys, hat, htb, rfl, hio, hseg, hrow, hbw⟩ := hrel
    by_cases hin : t < b
    · have hi1 : (t : Int) < (b : Int) := by omega
      have hw2 : IntKind.i64.wrap ((t : Int) + 1) = (t : Int) + 1 := by rw [IntKind.wrap_i64]; omega
      have hst2 := Lib.hid (show IsIn w base g n cap a b t xs (.int .i64 (t : Int)) wr from ⟨t, ys, by omega, Nat.le_refl _, rfl, hio.start hin, hseg, hrow, hbw⟩)
      clear hio hseg hrow hbw
      go_wp2_with fail
      go_loopw [9] (fun j wr => IsIn w base g n cap a b t xs j wr) (fun j _ => (intOf j).toNat)
      case atStart => exact hst2.out
      case round =>
        clear hst2
        obtain ⟨p, zs, hap, hpt, rfl, hii, hseg, hrow, hbw⟩ := hrel
        by_cases hpa : a < p
        · have hj1 : (a : Int) < (p : Int) := by omega
          obtain ⟨q, hpq⟩ : ∃ q, p = q + 1 := ⟨p - 1, by omega⟩
          have hw3 : IntKind.i64.wrap ((p : Int) - 1) = (q : Int) := by rw [IntKind.wrap_i64]; omega
          have hp2 : 0 ≤ (p : Int) ∧ (p : Int) < (n : Int) := by omega
          have hq2 : 0 ≤ (q : Int) ∧ (q : Int) < (n : Int) := by omega
          obtain ⟨dx, kx, sx, tx, qx, cx, lx, Ax, mx, px, ix, hx, hx2⟩ := hrow.get (i := p) (by omega)
          obtain ⟨dy, ky, sy, ty, qy, cy, ly, Ay, my, py, iy, hy, hy2⟩ := hrow.get (i := q) (by omega)
          have hdx := (HD.out.perm hseg.perm).get hx
          have hdy := (HD.out.perm hseg.perm).get hy
          have HX2 := Lib.hid hx2
          have HY2 := Lib.hid hy2
          have HC := Lib.hid (fun (W : World) => cmp_sent W dx kx sx tx qx cx dy ky sy ty qy cy Ax Ay mx px my py hdx hdy)
          have HSF := Lib.hid (show SwF w base g n cap zs wr.drew from ⟨SRow.below hrow (Below.refl _ _).drew, hbw.drew⟩)
          have HEND := Lib.hid (fun (W : World) (hW : SwF w base g n cap zs W) (hno : ¬ dx < dy) => show IsRel w base g n cap a b xs (.int .i64 ((t : Int) + 1)) W from IsIn.done hii hseg hW.1 hW.2 hat hpt hin (fun x y _ hx' hy' => by
            rw [hx] at hx'
            rw [show p - 1 = q by omega, hy] at hy'
            obtain rfl := Option.some.inj hx'
            obtain rfl := Option.some.inj hy'
            exact hno))
          have HSTEP := Lib.hid (fun (W : World) (hW : SwF w base g n cap zs W) (hlt : dx < dy) => show IsIn w base g n cap a b t xs (.int .i64 (q : Int)) (set7 (set7 W g (p * 7) (dy, ⟨⟨ky, sy, ty, qy, cy, ly⟩, Ay, my, py⟩)) g (q * 7) (dx, ⟨⟨kx, sx, tx, qx, cx, lx⟩, Ax, mx, px⟩)) from IsIn.step hii hseg hW.1 hW.2 (by omega) hpq hpt hin hb hx hy hlt)
          have HLN := Lib.hid hrow.len
          have HPQ := Lib.hid hpq
          clear hpq hii hseg hrow hbw hx hy hx2 hy2 hdx hdy
          go_upto_region 4 with (fail)
          refine wp_region_seq (SwF w base g n cap zs) (SwF.lasts _ _ _ _ _ _) (by kernel_rfl) (by kernel_rfl) HSF.out ?_
          clear HSF
          repeat (first
            | (refine wpSeq_off (by rfl) ?_; try simp only [Act.put, List.setIfInBounds_toArray, List.set_cons_zero, List.set_cons_succ])
            | (refine wpSeq_val (v := .bool true) (by rfl) (fun W hS => ?_) ?_
               · (clear hS; go_simp; done)
               try simp only [Act.put, List.setIfInBounds_toArray, List.set_cons_zero, List.set_cons_succ])
            | (refine wpSeq_val (v := .bool false) (by rfl) (fun W hS => ?_) ?_
               · (clear hS; go_simp; done)
               try simp only [Act.put, List.setIfInBounds_toArray, List.set_cons_zero, List.set_cons_succ])
            | (refine wpSeq_val (v := ?_) (by rfl) (fun W hS => ?_) ?_
               rotate_left
               · ((obtain ⟨x0, x1, x2, x3, x4, x5, x6⟩ := SRow.cells hS.1 HX2.out; obtain ⟨y0, y1, y2, y3, y4, y5, y6⟩ := SRow.cells hS.1 HY2.out; clear hS); go_simp; first | done | with_reducible rfl)
               try simp only [Act.put, List.setIfInBounds_toArray, List.set_cons_zero, List.set_cons_succ]))
          refine wpSeq_call (v := .int .i64 (dx - dy)) (by rfl) (fun W hS => ?_) (fun W hS => ((fun W _ => HC.out W) W hS)) ?_
          · (clear hS; go_simp; done)
          try simp only [Act.put, List.setIfInBounds_toArray, List.set_cons_zero, List.set_cons_succ]
          by_cases hlt : dx < dy
          · have hlt2 : dx - dy < 0 := by omega
            repeat (first
              | (refine wpSeq_off (by rfl) ?_; try simp only [Act.put, List.setIfInBounds_toArray, List.set_cons_zero, List.set_cons_succ])
              | (refine wpSeq_val (v := .bool true) (by rfl) (fun W hS => ?_) ?_
                 · (clear hS; go_simp; done)
                 try simp only [Act.put, List.setIfInBounds_toArray, List.set_cons_zero, List.set_cons_succ])
              | (refine wpSeq_val (v := .bool false) (by rfl) (fun W hS => ?_) ?_
                 · (clear hS; go_simp; done)
                 try simp only [Act.put, List.setIfInBounds_toArray, List.set_cons_zero, List.set_cons_succ])
              | (refine wpSeq_val (v := ?_) (by rfl) (fun W hS => ?_) ?_
                 rotate_left
                 · ((clear hS); go_simp; first | done | with_reducible rfl)
                 try simp only [Act.put, List.setIfInBounds_toArray, List.set_cons_zero, List.set_cons_succ]))
            refine wpSeq_nil (fun W hS => ?_)
            clear HEND HC
            have HX := Lib.hid (HSTEP.out W.drew ⟨SRow.below hS.1 (Below.refl _ _).drew, hS.2.drew⟩ hlt)
            have h0 : GRow base g n cap zs W.drew := SRow.below hS.1 (Below.refl _ _).drew
            clear hS HSTEP
            obtain ⟨W0, hW0⟩ : ∃ W0, W.drew = W0 := ⟨_, rfl⟩
            rw [hW0] at HX h0
            obtain ⟨x0, x1, x2, x3, x4, x5, x6⟩ := SRow.cells h0 HX2.out
            obtain ⟨y0, y1, y2, y3, y4, y5, y6⟩ := SRow.cells h0 HY2.out
            have T1 := Lib.hid (SRow.there h0 (i := p) (by omega))
            have T2 := Lib.hid (SRow.there (SRow.set h0 (i := p) (by rw [List.length_map, HLN.out]; omega) (dy, ⟨⟨ky, sy, ty, qy, cy, ly⟩, Ay, my, py⟩)) (i := q) (by omega))
            clear h0 HX2 HY2
            go_upto_region 6 with (fail)
            refine wp_region_sw hW0 15 17 [0, 1, 2, 3, 4, 5, 6, 7, 8, 10, 11, 12, 14, 16] (fun i => ([.slice (some ⟨g, 0, none⟩) n cap, .int .i64 p, .slice (some ⟨g, 0, none⟩) n cap, .int .i64 p, .int .i64 q, .slice (some ⟨g, 0, none⟩) n cap, .int .i64 p, .int .i64 q, .pointer (some ⟨g, q * 7, none⟩), .agg #[.int .i64 dy, .int .i64 ky, .int .i64 sy, .int .i64 ty, .int .i64 qy, .int .u32 cy, .slice Ay my py], .slice (some ⟨g, 0, none⟩) n cap, .int .i64 p, .pointer (some ⟨g, p * 7, none⟩), .agg #[.int .i64 dx, .int .i64 kx, .int .i64 sx, .int .i64 tx, .int .i64 qx, .int .u32 cx, .slice Ax mx px], .pointer (some ⟨g, p * 7, none⟩), undef, .pointer (some ⟨g, q * 7, none⟩), undef] : List Value).getD i undef) (w1 := set7 W0 g (p * 7) (dy, ⟨⟨ky, sy, ty, qy, cy, ly⟩, Ay, my, py⟩)) (w2 := set7 (set7 W0 g (p * 7) (dy, ⟨⟨ky, sy, ty, qy, cy, ly⟩, Ay, my, py⟩)) g (q * 7) (dx, ⟨⟨kx, sx, tx, qx, cx, lx⟩, Ax, mx, px⟩)) (by kernel_rfl) (by kernel_rfl) (by kernel_rfl) ?_ ?_ ?_ ?_
            · as_aux_lemma =>
              intro i o hi ho n1 n2 vs hd W hW
              have hi : i < 18 := hi
              rcases i with _ | _ | _ | _ | _ | _ | _ | _ | _ | _ | _ | _ | _ | _ | _ | _ | _ | _ | i
              all_goals first | omega | skip
              all_goals (simp only [List.getElem?_cons_succ, List.getElem?_cons_zero, Option.some.injEq] at ho; subst ho)
              · refine ⟨rfl, ?_⟩
                clear hd hW n1 n2
                unfold lexA
                try simp only [putAll, preI, Nat.reduceLT, Nat.reduceAdd, decide_true, decide_false, Bool.false_eq_true, if_true, if_false, Act.put, List.setIfInBounds_toArray, List.set_cons_zero, List.set_cons_succ]
                go_simp
              · refine ⟨rfl, ?_⟩
                clear hd hW n1 n2
                unfold lexA
                try simp only [putAll, preI, Nat.reduceLT, Nat.reduceAdd, decide_true, decide_false, Bool.false_eq_true, if_true, if_false, Act.put, List.setIfInBounds_toArray, List.set_cons_zero, List.set_cons_succ]
                go_simp
              · refine ⟨rfl, ?_⟩
                clear hd hW n1 n2
                unfold lexA
                try simp only [putAll, preI, Nat.reduceLT, Nat.reduceAdd, decide_true, decide_false, Bool.false_eq_true, if_true, if_false, Act.put, List.setIfInBounds_toArray, List.set_cons_zero, List.set_cons_succ]
                go_simp
              · refine ⟨rfl, ?_⟩
                clear hd hW n1 n2
                unfold lexA
                try simp only [putAll, preI, Nat.reduceLT, Nat.reduceAdd, decide_true, decide_false, Bool.false_eq_true, if_true, if_false, Act.put, List.setIfInBounds_toArray, List.set_cons_zero, List.set_cons_succ]
                go_simp
              · have a3 : vs 3 = .int .i64 p := hd ⟨3, .data⟩ (by simp) rfl (by decide) (by decide)
                refine ⟨rfl, ?_⟩
                clear hd hW n1 n2
                unfold lexA
                try simp only [putAll, preI, Nat.reduceLT, Nat.reduceAdd, decide_true, decide_false, Bool.false_eq_true, if_true, if_false, Act.put, List.setIfInBounds_toArray, List.set_cons_zero, List.set_cons_succ]
                go_simp
              · refine ⟨rfl, ?_⟩
                clear hd hW n1 n2
                unfold lexA
                try simp only [putAll, preI, Nat.reduceLT, Nat.reduceAdd, decide_true, decide_false, Bool.false_eq_true, if_true, if_false, Act.put, List.setIfInBounds_toArray, List.set_cons_zero, List.set_cons_succ]
                go_simp
              · refine ⟨rfl, ?_⟩
                clear hd hW n1 n2
                unfold lexA
                try simp only [putAll, preI, Nat.reduceLT, Nat.reduceAdd, decide_true, decide_false, Bool.false_eq_true, if_true, if_false, Act.put, List.setIfInBounds_toArray, List.set_cons_zero, List.set_cons_succ]
                go_simp
              · have a6 : vs 6 = .int .i64 p := hd ⟨6, .data⟩ (by simp) rfl (by decide) (by decide)
                refine ⟨rfl, ?_⟩
                clear hd hW n1 n2
                unfold lexA
                try simp only [putAll, preI, Nat.reduceLT, Nat.reduceAdd, decide_true, decide_false, Bool.false_eq_true, if_true, if_false, Act.put, List.setIfInBounds_toArray, List.set_cons_zero, List.set_cons_succ]
                go_simp
              · have a5 : vs 5 = .slice (some ⟨g, 0, none⟩) n cap := hd ⟨5, .data⟩ (by simp) rfl (by decide) (by decide)
                have a7 : vs 7 = .int .i64 q := hd ⟨7, .data⟩ (by simp) rfl (by decide) (by decide)
                refine ⟨rfl, ?_⟩
                clear hd hW n1 n2
                unfold lexA
                try simp only [putAll, preI, Nat.reduceLT, Nat.reduceAdd, decide_true, decide_false, Bool.false_eq_true, if_true, if_false, Act.put, List.setIfInBounds_toArray, List.set_cons_zero, List.set_cons_succ]
                go_simp
              · have a8 : vs 8 = .pointer (some ⟨g, q * 7, none⟩) := hd ⟨8, .data⟩ (by simp) rfl (by decide) (by decide)
                obtain rfl := hW rfl
                refine ⟨rfl, ?_⟩
                clear hd n1 n2
                unfold lexA
                try simp only [putAll, preI, Nat.reduceLT, Nat.reduceAdd, decide_true, decide_false, Bool.false_eq_true, if_true, if_false, Act.put, List.setIfInBounds_toArray, List.set_cons_zero, List.set_cons_succ]
                go_simp
              · refine ⟨rfl, ?_⟩
                clear hd hW n1 n2
                unfold lexA
                try simp only [putAll, preI, Nat.reduceLT, Nat.reduceAdd, decide_true, decide_false, Bool.false_eq_true, if_true, if_false, Act.put, List.setIfInBounds_toArray, List.set_cons_zero, List.set_cons_succ]
                go_simp
              · refine ⟨rfl, ?_⟩
                clear hd hW n1 n2
                unfold lexA
                try simp only [putAll, preI, Nat.reduceLT, Nat.reduceAdd, decide_true, decide_false, Bool.false_eq_true, if_true, if_false, Act.put, List.setIfInBounds_toArray, List.set_cons_zero, List.set_cons_succ]
                go_simp
              · have a10 : vs 10 = .slice (some ⟨g, 0, none⟩) n cap := hd ⟨10, .data⟩ (by simp) rfl (by decide) (by decide)
                have a11 : vs 11 = .int .i64 p := hd ⟨11, .data⟩ (by simp) rfl (by decide) (by decide)
                refine ⟨rfl, ?_⟩
                clear hd hW n1 n2
                unfold lexA
                try simp only [putAll, preI, Nat.reduceLT, Nat.reduceAdd, decide_true, decide_false, Bool.false_eq_true, if_true, if_false, Act.put, List.setIfInBounds_toArray, List.set_cons_zero, List.set_cons_succ]
                go_simp
              · have a12 : vs 12 = .pointer (some ⟨g, p * 7, none⟩) := hd ⟨12, .data⟩ (by simp) rfl (by decide) (by decide)
                obtain rfl := hW rfl
                refine ⟨rfl, ?_⟩
                clear hd n1 n2
                unfold lexA
                try simp only [putAll, preI, Nat.reduceLT, Nat.reduceAdd, decide_true, decide_false, Bool.false_eq_true, if_true, if_false, Act.put, List.setIfInBounds_toArray, List.set_cons_zero, List.set_cons_succ]
                go_simp
              · have a0 : vs 0 = .slice (some ⟨g, 0, none⟩) n cap := hd ⟨0, .data⟩ (by simp) rfl (by decide) (by decide)
                have a1 : vs 1 = .int .i64 p := hd ⟨1, .data⟩ (by simp) rfl (by decide) (by decide)
                refine ⟨rfl, ?_⟩
                clear hd hW n1 n2
                unfold lexA
                try simp only [putAll, preI, Nat.reduceLT, Nat.reduceAdd, decide_true, decide_false, Bool.false_eq_true, if_true, if_false, Act.put, List.setIfInBounds_toArray, List.set_cons_zero, List.set_cons_succ]
                go_simp
              · have a2 : vs 2 = .slice (some ⟨g, 0, none⟩) n cap := hd ⟨2, .data⟩ (by simp) rfl (by decide) (by decide)
                have a4 : vs 4 = .int .i64 q := hd ⟨4, .data⟩ (by simp) rfl (by decide) (by decide)
                refine ⟨rfl, ?_⟩
                clear hd hW n1 n2
                unfold lexA
                try simp only [putAll, preI, Nat.reduceLT, Nat.reduceAdd, decide_true, decide_false, Bool.false_eq_true, if_true, if_false, Act.put, List.setIfInBounds_toArray, List.set_cons_zero, List.set_cons_succ]
                go_simp
            · as_aux_lemma =>
              intro o ho vs hd
              simp only [List.getElem?_cons_succ, List.getElem?_cons_zero, Option.some.injEq] at ho
              subst ho
              have a9 : vs 9 = .agg #[.int .i64 dy, .int .i64 ky, .int .i64 sy, .int .i64 ty, .int .i64 qy, .int .u32 cy, .slice Ay my py] := hd ⟨9, .data⟩ (by simp) rfl (by decide) (by decide)
              have a14 : vs 14 = .pointer (some ⟨g, p * 7, none⟩) := hd ⟨14, .data⟩ (by simp) rfl (by decide) (by decide)
              refine ⟨rfl, exec_store7 (e := (dy, ⟨⟨ky, sy, ty, qy, cy, ly⟩, Ay, my, py⟩)) rfl ?_ ?_ T1.out⟩
              · clear hd
                unfold lexA
                try simp only [putAll, preI, Nat.reduceLT, Nat.reduceAdd, decide_true, decide_false, Bool.false_eq_true, if_true, if_false, Act.put, List.setIfInBounds_toArray, List.set_cons_zero, List.set_cons_succ]
                rw [a14]
                rfl
              · clear hd
                unfold lexA
                try simp only [putAll, preI, Nat.reduceLT, Nat.reduceAdd, decide_true, decide_false, Bool.false_eq_true, if_true, if_false, Act.put, List.setIfInBounds_toArray, List.set_cons_zero, List.set_cons_succ]
                rw [a9]
                rfl
            · as_aux_lemma =>
              intro o ho vs hd
              simp only [List.getElem?_cons_succ, List.getElem?_cons_zero, Option.some.injEq] at ho
              subst ho
              have a13 : vs 13 = .agg #[.int .i64 dx, .int .i64 kx, .int .i64 sx, .int .i64 tx, .int .i64 qx, .int .u32 cx, .slice Ax mx px] := hd ⟨13, .data⟩ (by simp) rfl (by decide) (by decide)
              have a16 : vs 16 = .pointer (some ⟨g, q * 7, none⟩) := hd ⟨16, .data⟩ (by simp) rfl (by decide) (by decide)
              refine ⟨rfl, exec_store7 (e := (dx, ⟨⟨kx, sx, tx, qx, cx, lx⟩, Ax, mx, px⟩)) rfl ?_ ?_ T2.out⟩
              · clear hd
                unfold lexA
                try simp only [putAll, preI, Nat.reduceLT, Nat.reduceAdd, decide_true, decide_false, Bool.false_eq_true, if_true, if_false, Act.put, List.setIfInBounds_toArray, List.set_cons_zero, List.set_cons_succ]
                rw [a16]
                rfl
              · clear hd
                unfold lexA
                try simp only [putAll, preI, Nat.reduceLT, Nat.reduceAdd, decide_true, decide_false, Bool.false_eq_true, if_true, if_false, Act.put, List.setIfInBounds_toArray, List.set_cons_zero, List.set_cons_succ]
                rw [a13]
                rfl

            clear x0 x1 x2 x3 x4 x5 x6 y0 y1 y2 y3 y4 y5 y6 T1 T2
            intro vs hv
            generalize set7 (set7 W0 g (p * 7) (dy, ⟨⟨ky, sy, ty, qy, cy, ly⟩, Ay, my, py⟩)) g (q * 7) (dx, ⟨⟨kx, sx, tx, qx, cx, lx⟩, Ax, mx, px⟩) = W2 at HX ⊢
            unfold lexA
            simp only [putAll, preI, Nat.reduceLT, Nat.reduceAdd, decide_true, decide_false, Bool.false_eq_true, if_true, if_false, Act.put, List.setIfInBounds_toArray, List.set_cons_zero, List.set_cons_succ, List.drop_succ_cons, List.drop_zero]
            clear hv
            go_wp2_with fail
            go_roundw
            case rel => exact HX.out
            case measure => have := HPQ.out; simp [intOf]; omega
          · have hlt2 : ¬ dx - dy < 0 := by omega
            repeat (first
              | (refine wpSeq_off (by rfl) ?_; try simp only [Act.put, List.setIfInBounds_toArray, List.set_cons_zero, List.set_cons_succ])
              | (refine wpSeq_val (v := .bool true) (by rfl) (fun W hS => ?_) ?_
                 · (clear hS; go_simp; done)
                 try simp only [Act.put, List.setIfInBounds_toArray, List.set_cons_zero, List.set_cons_succ])
              | (refine wpSeq_val (v := .bool false) (by rfl) (fun W hS => ?_) ?_
                 · (clear hS; go_simp; done)
                 try simp only [Act.put, List.setIfInBounds_toArray, List.set_cons_zero, List.set_cons_succ])
              | (refine wpSeq_val (v := ?_) (by rfl) (fun W hS => ?_) ?_
                 rotate_left
                 · ((clear hS); go_simp; first | done | with_reducible rfl)
                 try simp only [Act.put, List.setIfInBounds_toArray, List.set_cons_zero, List.set_cons_succ]))
            refine wpSeq_nil (fun W hS => ?_)
            have HX := Lib.hid (HEND.out W hS hlt)
            clear hS HEND HSTEP HC
            go_wp2_with fail
            go_roundw
            case rel => exact HX.out
            case measure => simp [intOf]; omega
        · obtain rfl : p = a := by omega
          have hj1 : ¬ (p : Int) < (p : Int) := by omega
          have HSF := Lib.hid (show SwF w base g n cap zs wr.drew from ⟨SRow.below hrow (Below.refl _ _).drew, hbw.drew⟩)
          have HEND := Lib.hid (fun (W : World) (hW : SwF w base g n cap zs W) => show IsRel w base g n cap p b xs (.int .i64 ((t : Int) + 1)) W from IsIn.done hii hseg hW.1 hW.2 hat hpt hin (fun x y h1 => by omega))
          clear hii hseg hrow hbw
          go_upto_region 4 with (fail)
          refine wp_region_seq (SwF w base g n cap zs) (SwF.lasts _ _ _ _ _ _) (by kernel_rfl) (by kernel_rfl) HSF.out ?_
          clear HSF
          repeat (first
            | (refine wpSeq_off (by rfl) ?_; try simp only [Act.put, List.setIfInBounds_toArray, List.set_cons_zero, List.set_cons_succ])
            | (refine wpSeq_val (v := .bool true) (by rfl) (fun W hS => ?_) ?_
               · (clear hS; go_simp; done)
               try simp only [Act.put, List.setIfInBounds_toArray, List.set_cons_zero, List.set_cons_succ])
            | (refine wpSeq_val (v := .bool false) (by rfl) (fun W hS => ?_) ?_
               · (clear hS; go_simp; done)
               try simp only [Act.put, List.setIfInBounds_toArray, List.set_cons_zero, List.set_cons_succ])
            | (refine wpSeq_val (v := ?_) (by rfl) (fun W hS => ?_) ?_
               rotate_left
               · ((clear hS); go_simp; first | done | with_reducible rfl)
               try simp only [Act.put, List.setIfInBounds_toArray, List.set_cons_zero, List.set_cons_succ]))
          refine wpSeq_nil (fun W hS => ?_)
          have HX := Lib.hid (HEND.out W hS)
          clear hS HEND
          go_wp2_with fail
          go_roundw
          case rel => exact HX.out
          case measure => simp [intOf]; omega
    · have hi1 : ¬ (t : Int) < (b : Int) := by omega
      have HX := Lib.hid (show ∃ ys, MPost dueE a b xs ys ∧ GRow base g n cap ys wr ∧ GroW g w wr from ⟨ys, ⟨hseg, hio.ord.sub (Nat.le_refl _) (by omega)⟩, hrow, hbw⟩)
      clear hio hseg hrow hbw
      go_wp2_with fail
      go_end0
      exact ⟨rfl, HX.out⟩
end Go.Proofs.Ytpnefacignalpaa
