/- gantmake.arm. Conditions: those typed. -/
import Derived.Test.YtnnbnecpcppkdaaDoorArmA
namespace Go.Proofs.YtnnbnecpcppkdaaDoor
open Go.RowKit Go.Gy
set_option linter.unusedVariables false
/-- the loop: k links are made, their row is v -/
def ArRel (w0 : World) (B b g4 gs g5 : Nat) (names : Array Value) (p : P2) (z : Q3) (m : Int) (i : Value) (wr : World) : Prop :=
  ∃ (ks : List Lk) (v : Value), (ks.length : Int) ≤ m ∧ i = .int .i64 ks.length ∧ 
    InL w0 B b (g5 + 1) v ks [(g5, 37, #[.string { data := #[111, 110, 101] }, .bool p.x.neg, .string p.x.num, .string p.x.den, .bool p.y.neg, .string p.y.num, .string p.y.den, .bool false, .bool z.neg, .string z.num, .string z.den, v]), (gs, 9, names), (g4, 37, #[.string { data := #[] }, .bool false, .string { data := #[] }, .string { data := #[] }, .bool false, .string { data := #[] }, .string { data := #[] }, .bool false, .bool false, .string { data := #[] }, .string { data := #[] }, .slice none 0 0])] wr
def ArmPost (w0 : World) (B b : Nat) (e : Ending) (w' : World) : Prop := ∃ (p : P2) (z : Q3) (v : Value) (ks : List Lk) (lo : Nat),
  e = .returned (.agg #[.string { data := #[111, 110, 101] }, .bool p.x.neg, .string p.x.num, .string p.x.den, .bool p.y.neg, .string p.y.num, .string p.y.den, .bool false, .bool z.neg, .string z.num, .string z.den, v]) ∧ PtIs p 0 0 ∧ (z.can ∧ z.le 1) ∧ (1 ≤ ks.length ∧ ks.length ≤ 3) ∧ w0.heap.size ≤ lo ∧ InL w0 B b lo v ks [] w'
set_option maxRecDepth 100000 in
set_option maxHeartbeats 8000000 in
theorem arm_any (w0 w : World) (B b : Nat) (h0 : InS w0 B b [] w) (hB : B ≤ b) (hw : w0.heap.size ≤ b) :
    Calls Tryd.prog 64 #[.pointer (some ⟨b, 0, none⟩), .int .i64 0] w (ArmPost w0 B b) := by
  have h1 := h0.allocS hB 37 #[.string { data := #[] }, .bool false, .string { data := #[] }, .string { data := #[] }, .bool false, .string { data := #[] }, .string { data := #[] }, .bool false, .bool false, .string { data := #[] }, .string { data := #[] }, .slice none 0 0]
  have h2 := h1.allocS hB 9 #[.string { data := #[111, 110, 101] }, .string { data := #[116, 119, 111] }, .string { data := #[116, 104, 114, 101, 101] }, .string { data := #[102, 111, 117, 114] }]
  have h3 := h2.allocS hB 37 #[.string { data := #[111, 110, 101] }, .bool false, .string { data := #[] }, .string { data := #[] }, .bool false, .string { data := #[] }, .string { data := #[] }, .bool false, .bool false, .string { data := #[] }, .string { data := #[] }, .slice none 0 0]
  rw [World.size_alloc, World.size_alloc] at h3
  have hb0 := h0.st.lt
  have hw3 : w0.heap.size ≤ w.heap.size + 1 + 1 + 1 := by have := h0.toIn.bel.size; omega
  clear h1 h2 h0
  go_enter Tryd.func64, Tryd.ntmps64
  go_upto_region 2 with (fail)
  generalize World.alloc _ _ = W1 at h3 ⊢
  refine wp_region_inS 14 (BaseF 0 b) h3 (by kernel_rfl) (by kernel_rfl) ?_ ?_
  · intro i o hi ho vs W hI hdep
    rcases i with _ | _ | _ | _ | _ | _ | _ | _ | _ | _ | _ | _ | _ | _ | i
    all_goals first | omega | skip
    all_goals (simp only [List.getElem?_cons_succ, List.getElem?_cons_zero, Option.some.injEq] at ho; subst ho)
    · refine ⟨rfl, .inl ⟨.int .i64 0, W, ?_, hI, rfl, fun j u h => h⟩⟩
      unfold lexA
      simp only [putAll, preI, Nat.reduceLT, Nat.reduceAdd, decide_false, Bool.false_eq_true, if_false]
      go_simp
    · have d0 : vs 0 = .int .i64 0 := hdep ⟨0, .data⟩ (by simp) rfl
      have hw0 : IntKind.i64.wrap 0 = 0 := by decide
      refine ⟨rfl, .inl ⟨.int .i64 0, W, ?_, hI, rfl, fun j u h => h⟩⟩
      unfold lexA
      simp only [putAll, preI, Nat.reduceLT, Nat.reduceAdd, decide_true, decide_false, Bool.false_eq_true, if_true, if_false, Act.put, List.setIfInBounds_toArray, List.set_cons_zero, List.set_cons_succ]
      go_simp
    · have d1 : vs 1 = .int .i64 0 := hdep ⟨1, .data⟩ (by simp) rfl
      obtain ⟨p, hp, A⟩ := atR 0 0 (by omega) (by omega)
      refine ⟨rfl, .inr ⟨_, _, ?_, (A.out W).mono fun e W' ⟨he, hb⟩ => ⟨_, he, hI.callS hB hb, ⟨p, rfl, hp⟩, BaseF.below hb⟩⟩⟩
      unfold lexA
      simp only [putAll, preI, Nat.reduceLT, Nat.reduceAdd, decide_true, decide_false, Bool.false_eq_true, if_true, if_false, Act.put, List.setIfInBounds_toArray, List.set_cons_zero, List.set_cons_succ]
      go_simp
    · refine ⟨rfl, .inl ⟨.slice (some ⟨W.heap.size, 0, none⟩) 4 4, W.alloc (.cells #[.int .i64 0, .int .i64 1, .int .i64 (-1), .int .i64 1] 3), ?_, hI.skipS hB _, ⟨W.heap.size, rfl, Blk.new _ _ _, by have := hI.st.lt; omega⟩, BaseF.below ((Below.refl _ _).alloc (Nat.le_refl _) _)⟩⟩
      unfold lexA
      simp only [putAll, preI, Nat.reduceLT, Nat.reduceAdd, decide_true, decide_false, Bool.false_eq_true, if_true, if_false, Act.put, List.setIfInBounds_toArray, List.set_cons_zero, List.set_cons_succ]
      go_simp
    · refine ⟨rfl, .inl ⟨.pointer (some ⟨b, 0, none⟩), W, ?_, hI, rfl, fun j u h => h⟩⟩
      unfold lexA
      simp only [putAll, preI, Nat.reduceLT, Nat.reduceAdd, decide_true, decide_false, Bool.false_eq_true, if_true, if_false, Act.put, List.setIfInBounds_toArray, List.set_cons_zero, List.set_cons_succ]
      go_simp
    · have d4 : vs 4 = .pointer (some ⟨b, 0, none⟩) := hdep ⟨4, .data⟩ (by simp) rfl
      refine ⟨rfl, .inr ⟨_, _, ?_, (next_any W B b 4 hI.st hB (by decide) (by decide)).mono fun e W' ⟨r, he, r0, r1, hst, hg, _⟩ => ⟨_, he, hI.nextS hw hst hg, ⟨r.toNat, by rw [Int.toNat_of_nonneg r0], by omega⟩, BaseF.next hg⟩⟩⟩
      unfold lexA
      simp only [putAll, preI, Nat.reduceLT, Nat.reduceAdd, decide_true, decide_false, Bool.false_eq_true, if_true, if_false, Act.put, List.setIfInBounds_toArray, List.set_cons_zero, List.set_cons_succ]
      go_simp
    · obtain ⟨g, d3, hk, hne⟩ : ∃ g, vs 3 = .slice (some ⟨g, 0, none⟩) 4 4 ∧ Blk W g 3 #[.int .i64 0, .int .i64 1, .int .i64 (-1), .int .i64 1] ∧ g ≠ b := hdep ⟨3, .data⟩ (by simp) rfl
      obtain ⟨r, d5, hr⟩ : ∃ r : Nat, vs 5 = .int .i64 (r : Int) ∧ r < 4 := hdep ⟨5, .data⟩ (by simp) rfl
      have hr2 : 0 ≤ (r : Int) ∧ (r : Int) < 4 := by omega
      have hr3 : (r : Int) < 4 := by omega
      refine ⟨rfl, .inl ⟨.pointer (some ⟨g, r, none⟩), W, ?_, hI, ⟨g, r, rfl, hk, hne, hr⟩, fun j u h => h⟩⟩
      clear hk
      unfold lexA
      simp only [putAll, preI, Nat.reduceLT, Nat.reduceAdd, decide_true, decide_false, Bool.false_eq_true, if_true, if_false, Act.put, List.setIfInBounds_toArray, List.set_cons_zero, List.set_cons_succ]
      go_simp
    · obtain ⟨g, r, d6, hk, hne, hr⟩ : ∃ g r, vs 6 = .pointer (some ⟨g, r, none⟩) ∧ Blk W g 3 #[.int .i64 0, .int .i64 1, .int .i64 (-1), .int .i64 1] ∧ g ≠ b ∧ r < 4 := hdep ⟨6, .data⟩ (by simp) rfl
      obtain ⟨x, hx, hx1⟩ : ∃ x : Int, W.cell? ⟨g, r, none⟩ = some (.int .i64 x) ∧ -1 ≤ x ∧ x ≤ 1 := by
        rcases r with _ | _ | _ | _ | r
        · exact ⟨0, hk.cell 0 _ rfl, by decide, by decide⟩
        · exact ⟨1, hk.cell 1 _ rfl, by decide, by decide⟩
        · exact ⟨-1, hk.cell 2 _ rfl, by decide, by decide⟩
        · exact ⟨1, hk.cell 3 _ rfl, by decide, by decide⟩
        · omega
      refine ⟨rfl, .inl ⟨.int .i64 x, W, ?_, hI, ⟨x, rfl, hx1⟩, fun j u h => h⟩⟩
      clear hk
      unfold lexA
      simp only [putAll, preI, Nat.reduceLT, Nat.reduceAdd, decide_true, decide_false, Bool.false_eq_true, if_true, if_false, Act.put, List.setIfInBounds_toArray, List.set_cons_zero, List.set_cons_succ]
      go_simp
    · refine ⟨rfl, .inl ⟨.pointer (some ⟨b, 0, none⟩), W, ?_, hI, rfl, fun j u h => h⟩⟩
      unfold lexA
      simp only [putAll, preI, Nat.reduceLT, Nat.reduceAdd, decide_true, decide_false, Bool.false_eq_true, if_true, if_false, Act.put, List.setIfInBounds_toArray, List.set_cons_zero, List.set_cons_succ]
      go_simp
    · have d8 : vs 8 = .pointer (some ⟨b, 0, none⟩) := hdep ⟨8, .data⟩ (by simp) rfl
      refine ⟨rfl, .inr ⟨_, _, ?_, (next_any W B b 3 hI.st hB (by decide) (by decide)).mono fun e W' ⟨r, he, r0, r1, hst, hg, _⟩ => ⟨_, he, hI.nextS hw hst hg, ⟨r, rfl, r0, r1⟩, BaseF.next hg⟩⟩⟩
      unfold lexA
      simp only [putAll, preI, Nat.reduceLT, Nat.reduceAdd, decide_true, decide_false, Bool.false_eq_true, if_true, if_false, Act.put, List.setIfInBounds_toArray, List.set_cons_zero, List.set_cons_succ]
      go_simp
    · obtain ⟨r, d9, r0, r1⟩ : ∃ r : Int, vs 9 = .int .i64 r ∧ 0 ≤ r ∧ r < 3 := hdep ⟨9, .data⟩ (by simp) rfl
      obtain ⟨d, hd⟩ : ∃ d : Nat, 1 + r = d := ⟨(1 + r).toNat, by omega⟩
      have hwr : IntKind.i64.wrap (1 + r) = (d : Int) := by rw [IntKind.wrap_i64]; omega
      refine ⟨rfl, .inl ⟨.int .i64 (d : Int), W, ?_, hI, ⟨d, rfl, by omega, by omega⟩, fun j u h => h⟩⟩
      clear hd
      unfold lexA
      simp only [putAll, preI, Nat.reduceLT, Nat.reduceAdd, decide_true, decide_false, Bool.false_eq_true, if_true, if_false, Act.put, List.setIfInBounds_toArray, List.set_cons_zero, List.set_cons_succ]
      go_simp
    · obtain ⟨x, d7, x0, x1⟩ : ∃ x : Int, vs 7 = .int .i64 x ∧ -1 ≤ x ∧ x ≤ 1 := hdep ⟨7, .data⟩ (by simp) rfl
      obtain ⟨d, d10, e0, e1⟩ : ∃ d : Nat, vs 10 = .int .i64 (d : Int) ∧ 1 ≤ d ∧ d ≤ 3 := hdep ⟨10, .data⟩ (by simp) rfl
      have hz : qz (mkRat x d) ≤ 1 := by
        refine Nat.le_trans (qz_mk _ _) ?_
        have h1 := (natL_len_le x.natAbs 1).mpr (by omega)
        have h2 := (natL_len_le d 1).mpr (by omega)
        omega
      obtain ⟨z, q1, c1, l1⟩ := tri (mkRat x d) 1 hz
      have hO := makeOf_any W x d (by omega) (by omega) (by omega)
      rw [← q1, c1.qv] at hO
      refine ⟨rfl, .inr ⟨_, _, ?_, hO.mono fun e W' ⟨he, hb⟩ => ⟨_, he, hI.callS hB hb, ⟨z, rfl, c1, l1⟩, BaseF.below hb⟩⟩⟩
      clear q1 c1 l1 hz hO
      unfold lexA
      simp only [putAll, preI, Nat.reduceLT, Nat.reduceAdd, decide_true, decide_false, Bool.false_eq_true, if_true, if_false, Act.put, List.setIfInBounds_toArray, List.set_cons_zero, List.set_cons_succ]
      go_simp
    · obtain ⟨z, d11, cz, lz⟩ : ∃ z : Q3, vs 11 = .agg #[.bool z.neg, .string z.num, .string z.den] ∧ z.can ∧ z.le 1 := hdep ⟨11, .data⟩ (by simp) rfl
      refine ⟨rfl, .inl ⟨.agg #[.bool false, .bool z.neg, .string z.num, .string z.den], W, ?_, hI, ⟨z, rfl, cz, lz⟩, fun j u h => h⟩⟩
      clear cz lz
      unfold lexA
      simp only [putAll, preI, Nat.reduceLT, Nat.reduceAdd, decide_true, decide_false, Bool.false_eq_true, if_true, if_false, Act.put, List.setIfInBounds_toArray, List.set_cons_zero, List.set_cons_succ]
      go_simp
    · obtain ⟨p, d2, hp⟩ : ∃ p : P2, vs 2 = .agg #[.bool p.x.neg, .string p.x.num, .string p.x.den, .bool p.y.neg, .string p.y.num, .string p.y.den] ∧ PtIs p (40 * 0) 0 := hdep ⟨2, .data⟩ (by simp) rfl
      obtain ⟨z, d12, cz, lz⟩ : ∃ z : Q3, vs 12 = .agg #[.bool false, .bool z.neg, .string z.num, .string z.den] ∧ z.can ∧ z.le 1 := hdep ⟨12, .data⟩ (by simp) rfl
      refine ⟨rfl, .inl ⟨.agg #[.bool p.x.neg, .string p.x.num, .string p.x.den, .bool p.y.neg, .string p.y.num, .string p.y.den, .bool false, .bool z.neg, .string z.num, .string z.den], W, ?_, hI, ⟨p, z, rfl, hp, cz, lz⟩, fun j u h => h⟩⟩
      clear cz lz hp
      unfold lexA
      simp only [putAll, preI, Nat.reduceLT, Nat.reduceAdd, decide_true, decide_false, Bool.false_eq_true, if_true, if_false, Act.put, List.setIfInBounds_toArray, List.set_cons_zero, List.set_cons_succ]
      go_simp
  · intro vs W hI hF
    obtain ⟨p, z, d13, hp, cz, lz⟩ : ∃ (p : P2) (z : Q3), vs 13 = .agg #[.bool p.x.neg, .string p.x.num, .string p.x.den, .bool p.y.neg, .string p.y.num, .string p.y.den, .bool false, .bool z.neg, .string z.num, .string z.den] ∧ PtIs p (40 * 0) 0 ∧ z.can ∧ z.le 1 := hF 13 (by decide)
    unfold lexA
    simp only [putAll, preI, Nat.reduceLT, Nat.reduceAdd, decide_true, decide_false, Bool.false_eq_true, if_true, if_false, Act.put, List.setIfInBounds_toArray, List.set_cons_zero, List.set_cons_succ, List.drop_succ_cons, List.drop_zero]
    rw [d13]
    clear hF h3
    have hS1 := hI.toIn.take (a := [_])
    have fx := hS1.facts
    simp only [factsOf, cellsOf, Nat.zero_add, Nat.reduceAdd] at fx
    have hfz := fun i => hS1.free (k := 0) (i := i) rfl
    have hbw := hI.st.lt
    have HX := Lib.hid (hI.mid10 (by omega) (.bool p.x.neg) (.string p.x.num) (.string p.x.den) (.bool p.y.neg) (.string p.y.num) (.string p.y.den) (.bool false) (.bool z.neg) (.string z.num) (.string z.den))
    clear hS1
    go_upto_region 3 with (fail)
    have hI2 : InS w0 B b (_ :: _ :: _ :: _) _ := HX.out
    clear HX fx hfz hI
    generalize World.setCell _ _ _ = W2 at hI2 ⊢
    have hI := hI2
    clear hI2 hbw
    go_wp2_with fail
    refine (next_any W2 B b 3 hI.st hB (by decide) (by decide)).mono ?_
    rintro e wn ⟨r, rfl, r0, r1, hst, hg, _⟩
    replace hI := hI.nextS hw hst hg
    clear hst hg
    have hwr : IntKind.i64.wrap (1 + r) = 1 + r := by rw [IntKind.wrap_i64]; omega
    have Hp := Lib.hid hp
    have Hz := Lib.hid (And.intro cz lz)
    clear hp cz lz
    have hsz := hI.toIn.bel.size
    have hnw := (hI.toIn.blk _ List.mem_cons_self).lt
    have HI := Lib.hid hI
    clear hI
    go_wp2_with fail
    go_loopw [31] (fun i wr => ArRel w0 B b w.heap.size (w.heap.size + 1) (w.heap.size + 1 + 1) #[.string { data := #[111, 110, 101] }, .string { data := #[116, 119, 111] }, .string { data := #[116, 104, 114, 101, 101] }, .string { data := #[102, 111, 117, 114] }] p z (1 + r) i wr) (fun i _ => (1 + r).toNat - (intOf i).toNat)
    case atStart => exact ⟨[], .slice none 0 0, by simp; omega, rfl, ⟨HI.out, ⟨rfl, .inl ⟨rfl, rfl⟩⟩, (fun k hk => absurd hk List.not_mem_nil), hnw, by omega, fun x _ e => by cases e⟩⟩
    case round =>
      obtain ⟨wq, rfl⟩ : ∃ wq, wq = wr := ⟨_, rfl⟩
      obtain ⟨ks, v, hk, rfl, hL⟩ := hrel
      by_cases hm : (ks.length : Int) < 1 + r
      · go_wp2_with fail
        refine (next_any _ B b 4 hL.st hB (by omega) (by omega)).mono ?_
        rintro e wn ⟨c, rfl, c0, c1, hst2, hg, _⟩
        replace hL := hL.next hw hst2 hg
        clear hst2 hg
        have k1 : IntKind.i64.wrap (2 * c) = 2 * c := by rw [IntKind.wrap_i64]; omega
        have k2 : IntKind.i64.wrap (4 + 2 * c) = 4 + 2 * c := by rw [IntKind.wrap_i64]; omega
        have k3 : IntKind.i64.wrap (4 + 2 * c + 1) = 4 + 2 * c + 1 := by rw [IntKind.wrap_i64]; omega
        obtain ⟨z1, q1, c1, l1, O1⟩ := of_link (4 + 2 * c) 4 (by omega) (by omega) (by omega)
        replace O1 := Lib.hid O1
        have Z1 := Lib.hid (And.intro q1 (And.intro c1 l1))
        clear q1 c1 l1
        go_wp2_with fail
        refine (O1.out _).mono ?_
        rintro e wn ⟨rfl, hb⟩
        replace hL := hL.call hB hb
        clear hb
        go_wp2_with fail
        refine (next_any _ B b 6 hL.st hB (by omega) (by omega)).mono ?_
        rintro e wn ⟨a, rfl, a0, a1, hst2, hg, _⟩
        replace hL := hL.next hw hst2 hg
        clear hst2 hg
        have k4 : IntKind.i64.wrap (-1 - a) = -1 - a := by rw [IntKind.wrap_i64]; omega
        obtain ⟨z2, q1, c1, l1, O2⟩ := of_link (-1 - a) 3 (by omega) (by omega) (by omega)
        replace O2 := Lib.hid O2
        have Z2 := Lib.hid (And.intro q1 (And.intro c1 l1))
        clear q1 c1 l1
        go_wp2_with fail
        refine (O2.out _).mono ?_
        rintro e wn ⟨rfl, hb⟩
        replace hL := hL.call hB hb
        clear hb
        go_wp2_with fail
        refine (next_any _ B b 6 hL.st hB (by omega) (by omega)).mono ?_
        rintro e wn ⟨x, rfl, x0, x1, hst2, hg, _⟩
        replace hL := hL.next hw hst2 hg
        clear hst2 hg
        have k5 : IntKind.i64.wrap (1 + x) = 1 + x := by rw [IntKind.wrap_i64]; omega
        obtain ⟨z3, q1, c1, l1, O3⟩ := of_link (1 + x) 3 (by omega) (by omega) (by omega)
        replace O3 := Lib.hid O3
        have Z3 := Lib.hid (And.intro q1 (And.intro c1 l1))
        clear q1 c1 l1
        go_wp2_with fail
        refine (O3.out _).mono ?_
        rintro e wn ⟨rfl, hb⟩
        replace hL := hL.call hB hb
        clear hb
        go_wp2_with fail
        refine (next_any _ B b 8 hL.st hB (by omega) (by omega)).mono ?_
        rintro e wn ⟨d, rfl, d0, d1, hst2, hg, _⟩
        replace hL := hL.next hw hst2 hg
        clear hst2 hg
        obtain ⟨D, hD⟩ : ∃ D : Nat, 4 + d = D := ⟨(4 + d).toNat, by omega⟩
        have k6 : IntKind.i64.wrap (4 + d) = (D : Int) := by rw [IntKind.wrap_i64]; omega
        obtain ⟨z4, q1, c1, l1, O4⟩ := of_link 1 D (by omega) (by omega) (by omega)
        replace O4 := Lib.hid O4
        have Z4 := Lib.hid (And.intro q1 (And.intro c1 l1))
        clear q1 c1 l1
        go_wp2_with fail
        refine (O4.out _).mono ?_
        rintro e wn ⟨rfl, hb⟩
        replace hL := hL.call hB hb
        clear hb
        go_wp2_with fail
        refine (next_any _ B b 20 hL.st hB (by omega) (by omega)).mono ?_
        rintro e wn ⟨f, rfl, f0, f1, hst2, hg, _⟩
        replace hL := hL.next hw hst2 hg
        clear hst2 hg
        obtain ⟨F, hF⟩ : ∃ F : Nat, 10 + f = F := ⟨(10 + f).toNat, by omega⟩
        have k7 : IntKind.i64.wrap (10 + f) = (F : Int) := by rw [IntKind.wrap_i64]; omega
        obtain ⟨z5, q1, c1, l1, O5⟩ := of_link 1 F (by omega) (by omega) (by omega)
        replace O5 := Lib.hid O5
        have Z5 := Lib.hid (And.intro q1 (And.intro c1 l1))
        clear q1 c1 l1
        go_wp2_with fail
        refine (O5.out _).mono ?_
        rintro e wn ⟨rfl, hb⟩
        replace hL := hL.call hB hb
        clear hb
        go_wp2_with fail
        have hlo := hL.lo1
        refine (rect_any _ (-1) (-1) (4 + 2 * c + 1) 1 (by omega) (by omega) (by omega) (by omega)).mono ?_
        rintro e wn ⟨g, l, rfl, hp, hge, hs, hb⟩
        replace hL := hL.call hB hb
        clear hb
        replace hlo : w.heap.size + 1 + 1 + 1 ≤ g := by omega
        clear hge
        have Hs := Lib.hid hs
        have Hp := Lib.hid hp
        have hgl := hs.lt
        clear hs hp
        have HL := Lib.hid (hL.alloc hB 28 #[.bool z1.neg, .string z1.num, .string z1.den, .bool z2.neg, .string z2.num, .string z2.den, .bool z3.neg, .string z3.num, .string z3.den, .bool z4.neg, .string z4.num, .string z4.den, .bool z5.neg, .string z5.num, .string z5.den, .slice (some ⟨g, 0, none⟩) 4 4])
        clear hL
        go_upto_region 7 with (fail)
        have hL := HL.out
        clear HL
        have hgl' : g < (wn.alloc (.cells #[.bool z1.neg, .string z1.num, .string z1.den, .bool z2.neg, .string z2.num, .string z2.den, .bool z3.neg, .string z3.num, .string z3.den, .bool z4.neg, .string z4.num, .string z4.den, .bool z5.neg, .string z5.num, .string z5.den, .slice (some ⟨g, 0, none⟩) 4 4] 28)).heap.size := by rw [World.size_alloc]; omega
        have Hs2 := Lib.hid (Hs.out.below ((Below.refl wn.heap.size wn).alloc (Nat.le_refl _) (.cells #[.bool z1.neg, .string z1.num, .string z1.den, .bool z2.neg, .string z2.num, .string z2.den, .bool z3.neg, .string z3.num, .string z3.den, .bool z4.neg, .string z4.num, .string z4.den, .bool z5.neg, .string z5.num, .string z5.den, .slice (some ⟨g, 0, none⟩) 4 4] 28)) hgl)
        clear Hs
        generalize hbx : wn.heap.size = bx at hL hgl ⊢
        generalize World.alloc _ _ = W5 at hL Hs2 hgl' ⊢
        clear hbx
        go_wp2_with fail
        refine (next_any W5 B b 3 hL.st hB (by omega) (by omega)).mono ?_
        rintro e wn ⟨y, rfl, y0, y1, hst2, hg, hse⟩
        clear hse
        have hlb := hL.lob
        have Hs := Lib.hid (show Blk wn g 30 (l.flatMap encP).toArray from by
          obtain ⟨_, _, _, _, g5⟩ := hg
          exact (g5 g hgl' (fun e => by have := Option.some.inj e; omega)).trans Hs2.out)
        replace hL := hL.next hw hst2 hg
        clear hst2 hg Hs2
        by_cases hy : y = 2
        · subst hy
          obtain ⟨p1, i1, A1⟩ := atR (-1) (-1) (by omega) (by omega)
          obtain ⟨p2, i2, A2⟩ := atR (4 + 2 * c + 1) 0 (by omega) (by omega)
          obtain ⟨p3, i3, A3⟩ := atR (-1) 1 (by omega) (by omega)
          have HP := Lib.hid (show PtsOf [p1, p2, p3] [(-1, -1), (4 + 2 * c + 1, 0), (-1, 1)] from ⟨i1, i2, i3, trivial⟩)
          clear i1 i2 i3
          go_wp2_with fail
          refine (A1.out _).mono ?_
          rintro e wn ⟨rfl, hb⟩
          replace hL := hL.call hB hb
          clear hb
          go_wp2_with fail
          refine (A2.out _).mono ?_
          rintro e wn ⟨rfl, hb⟩
          replace hL := hL.call hB hb
          clear hb
          go_wp2_with fail
          refine (A3.out _).mono ?_
          rintro e wn ⟨rfl, hb⟩
          replace hL := hL.call hB hb
          clear hb
          have hL2 := hL.skip hB (.cells #[.bool p1.x.neg, .string p1.x.num, .string p1.x.den, .bool p1.y.neg, .string p1.y.num, .string p1.y.den, .bool p2.x.neg, .string p2.x.num, .string p2.x.den, .bool p2.y.neg, .string p2.y.num, .string p2.y.den, .bool p3.x.neg, .string p3.x.num, .string p3.x.den, .bool p3.y.neg, .string p3.y.num, .string p3.y.den] 30)
          have hne8 : bx ≠ wn.heap.size := by have := hL.toIn.lt (k := 0) rfl; omega
          have HN := Lib.hid (show Blk (wn.alloc (.cells #[.bool p1.x.neg, .string p1.x.num, .string p1.x.den, .bool p1.y.neg, .string p1.y.num, .string p1.y.den, .bool p2.x.neg, .string p2.x.num, .string p2.x.den, .bool p2.y.neg, .string p2.y.num, .string p2.y.den, .bool p3.x.neg, .string p3.x.num, .string p3.x.den, .bool p3.y.neg, .string p3.y.num, .string p3.y.den] 30)) wn.heap.size 30 ([p1, p2, p3].flatMap encP).toArray from Blk.new wn 30 ([p1, p2, p3].flatMap encP).toArray)
          have hT2 := hL2.toIn.take (a := [_])
          have fx := hT2.facts
          simp only [factsOf, cellsOf, Nat.zero_add, Nat.reduceAdd] at fx
          have hfz := fun i => hT2.free (k := 0) (i := i) rfl
          have hbB : B ≤ bx := by have := hL.lo1; omega
          have HX := Lib.hid (hL2.set0 hbB (by decide) 15 (.slice (some ⟨wn.heap.size, 0, none⟩) 3 3))
          have hblt := hT2.lt (k := 0) rfl
          have HNX := Lib.hid (HN.out.far (p := ⟨bx, 15, none⟩) (show wn.heap.size ≠ bx from fun e => hne8 e.symm) (.slice (some ⟨wn.heap.size, 0, none⟩) 3 3))
          have hgw : w.heap.size + 1 + 1 + 1 ≤ wn.heap.size := hL.lo1
          clear hT2 hL2 hL HN
          go_upto_region 9 with (fail)
          have hL := HX.out
          have HN := Lib.hid HNX.out
          simp only [List.setIfInBounds_toArray, List.set_cons_succ, List.set_cons_zero] at hL
          clear HX HNX fx hfz hblt
          generalize hgn : wn.heap.size = gn at hL HN hgw ⊢
          generalize World.setCell _ _ _ = W6 at hL HN ⊢
          clear hgn
          have LK := Lib.hid (show LinkIs (w.heap.size + 1 + 1 + 1) ⟨z1, z2, z3, z4, z5, .slice (some ⟨gn, 0, none⟩) 3 3⟩ W6 from
            ⟨c, a, x, d, f, gn, [p1, p2, p3], [(-1, -1), (4 + 2 * c + 1, 0), (-1, 1)], by omega, by omega, by omega, by omega, by omega, ⟨Z1.out.1, Z2.out.1, Z3.out.1, by rw [hD]; exact Z4.out.1, by rw [hF]; exact Z5.out.1⟩, ⟨Z1.out.2.1, Z2.out.2.1, Z3.out.2.1, Z4.out.2.1, Z5.out.2.1⟩, ⟨Z1.out.2.2, Z2.out.2.2, Z3.out.2.2, Z4.out.2.2, Z5.out.2.2⟩, rfl, hgw, HN.out, HP.out, .inr rfl⟩)
          have hT := hL.toIn.take (a := [_, _])
          have fx := hT.facts
          simp only [factsOf, cellsOf, Nat.zero_add, Nat.reduceAdd] at fx
          have HPU := Lib.hid (fun v6 w6 h1 h2 h3 => hL.tail.push (k := ⟨z1, z2, z3, z4, z5, .slice (some ⟨gn, 0, none⟩) 3 3⟩) (v' := v6) (W' := w6) (n := ks.length + 1) hB LK.out (by
            intro y hy
            rcases List.mem_cons.1 hy with rfl | hy
            · show w.heap.size + 1 + 1 < _; omega
            · rcases List.mem_cons.1 hy with rfl | hy
              · show w.heap.size + 1 < _; omega
              · rcases List.mem_cons.1 hy with rfl | hy
                · show w.heap.size < _; omega
                · cases hy) hw3 h1 (by simp) h2 h3)
          have hbase : w.heap.size + 1 + 1 + 1 ≤ W6.heap.size := hL.lo1
          have hmx : ks.length + 1 ≤ 3 := by omega
          have hwk : IntKind.i64.wrap ((ks.length : Int) + 1) = (ks.length : Int) + 1 := by rw [IntKind.wrap_i64]; omega
          have Hown := Lib.hid hL.own
          clear hT hL
          obtain ⟨i0, hi0, hi1⟩ := Option.map_eq_some_iff.1 info_link
          injection hi1 with hz0 hi1
          injection hi1 with hz1 hz2
          go_wp2_with (at_builtin; refine wpList_pushG rfl (.tmp 70) (.tmp 72) 35 rfl (w.heap.size + 1 + 1 + 1) 28 i0 (.agg #[.bool false, .string { data := #[] }, .string { data := #[] }, .bool false, .string { data := #[] }, .string { data := #[] }, .bool false, .string { data := #[] }, .string { data := #[] }, .bool false, .string { data := #[] }, .string { data := #[] }, .bool false, .string { data := #[] }, .string { data := #[] }, .slice none 0 0]) 16 224 Tryd.underlying35 hi0 hz0 hz1 hz2 rfl (by omega) _ ks.length _ rfl Hown.out [.bool z1.neg, .string z1.num, .string z1.den, .bool z2.neg, .string z2.num, .string z2.den, .bool z3.neg, .string z3.num, .string z3.den, .bool z4.neg, .string z4.num, .string z4.den, .bool z5.neg, .string z5.num, .string z5.den, .slice (some ⟨gn, 0, none⟩) 3 3] rfl rfl (by simp [Value.oneCell']) (by unfold maxLen; omega) (by omega) hbase ?_; intro v6 w6 hn6 hb6 hg6 hsh; obtain ⟨gq, cq, rfl, _, _⟩ := hsh; have hL6 := HPU.out _ w6 hn6 hb6 hg6; have hS6 := hL6.toIn.take (a := [_]); have fx6 := hS6.facts; simp only [factsOf, cellsOf, Nat.zero_add, Nat.reduceAdd] at fx6; have hz6 := fun i => hS6.free (k := 0) (i := i) rfl; have HL6 := Lib.hid (hL6.set0 (by omega) (by decide) 11 (.slice (some ⟨gq, 0, none⟩) (ks.length + 1) cq)); clear hS6 hL6 hn6 hb6 hg6)
          clear fx6 hz6 fx hi0 hz0 hz1 hz2 HPU Hown
          have hL7 := HL6.out
          simp only [List.setIfInBounds_toArray, List.set_cons_succ, List.set_cons_zero] at hL7
          clear HL6
          generalize World.setCell _ _ _ = W8 at hL7 ⊢
          have HX := Lib.hid hL7
          clear hL7
          go_roundw
          case rel => exact ⟨ks ++ [⟨z1, z2, z3, z4, z5, .slice (some ⟨gn, 0, none⟩) 3 3⟩], .slice (some ⟨gq, 0, none⟩) (ks.length + 1) cq, by simp; omega, by simp, by simpa using HX.out⟩
          case measure => simp [intOf]; omega
        · have hy2 : (y == 2) = false := by simpa using hy
          have hg4 : l.length = 4 := Hp.out.len2
          have LK := Lib.hid (show LinkIs (w.heap.size + 1 + 1 + 1) ⟨z1, z2, z3, z4, z5, .slice (some ⟨g, 0, none⟩) 4 4⟩ wn from
            ⟨c, a, x, d, f, g, l, [(-1, -1), (4 + 2 * c + 1, -1), (4 + 2 * c + 1, 1), (-1, 1)], by omega, by omega, by omega, by omega, by omega, ⟨Z1.out.1, Z2.out.1, Z3.out.1, by rw [hD]; exact Z4.out.1, by rw [hF]; exact Z5.out.1⟩, ⟨Z1.out.2.1, Z2.out.2.1, Z3.out.2.1, Z4.out.2.1, Z5.out.2.1⟩, ⟨Z1.out.2.2, Z2.out.2.2, Z3.out.2.2, Z4.out.2.2, Z5.out.2.2⟩, by rw [hg4], hlo, Hs.out, Hp.out, .inl rfl⟩)
          clear hg4
          have hT := hL.toIn.take (a := [_, _])
          have fx := hT.facts
          simp only [factsOf, cellsOf, Nat.zero_add, Nat.reduceAdd] at fx
          have HPU := Lib.hid (fun v6 w6 h1 h2 h3 => hL.tail.push (k := ⟨z1, z2, z3, z4, z5, .slice (some ⟨g, 0, none⟩) 4 4⟩) (v' := v6) (W' := w6) (n := ks.length + 1) hB LK.out (by
            intro y hy
            rcases List.mem_cons.1 hy with rfl | hy
            · show w.heap.size + 1 + 1 < _; omega
            · rcases List.mem_cons.1 hy with rfl | hy
              · show w.heap.size + 1 < _; omega
              · rcases List.mem_cons.1 hy with rfl | hy
                · show w.heap.size < _; omega
                · cases hy) hw3 h1 (by simp) h2 h3)
          have hbase : w.heap.size + 1 + 1 + 1 ≤ wn.heap.size := hL.lo1
          have hmx : ks.length + 1 ≤ 3 := by omega
          have hwk : IntKind.i64.wrap ((ks.length : Int) + 1) = (ks.length : Int) + 1 := by rw [IntKind.wrap_i64]; omega
          have Hown := Lib.hid hL.own
          clear hT hL
          obtain ⟨i0, hi0, hi1⟩ := Option.map_eq_some_iff.1 info_link
          injection hi1 with hz0 hi1
          injection hi1 with hz1 hz2
          go_wp2_with (at_builtin; refine wpList_pushG rfl (.tmp 70) (.tmp 72) 35 rfl (w.heap.size + 1 + 1 + 1) 28 i0 (.agg #[.bool false, .string { data := #[] }, .string { data := #[] }, .bool false, .string { data := #[] }, .string { data := #[] }, .bool false, .string { data := #[] }, .string { data := #[] }, .bool false, .string { data := #[] }, .string { data := #[] }, .bool false, .string { data := #[] }, .string { data := #[] }, .slice none 0 0]) 16 224 Tryd.underlying35 hi0 hz0 hz1 hz2 rfl (by omega) _ ks.length _ rfl Hown.out [.bool z1.neg, .string z1.num, .string z1.den, .bool z2.neg, .string z2.num, .string z2.den, .bool z3.neg, .string z3.num, .string z3.den, .bool z4.neg, .string z4.num, .string z4.den, .bool z5.neg, .string z5.num, .string z5.den, .slice (some ⟨g, 0, none⟩) 4 4] rfl rfl (by simp [Value.oneCell']) (by unfold maxLen; omega) (by omega) hbase ?_; intro v6 w6 hn6 hb6 hg6 hsh; obtain ⟨gq, cq, rfl, _, _⟩ := hsh; have hL6 := HPU.out _ w6 hn6 hb6 hg6; have hS6 := hL6.toIn.take (a := [_]); have fx6 := hS6.facts; simp only [factsOf, cellsOf, Nat.zero_add, Nat.reduceAdd] at fx6; have hz6 := fun i => hS6.free (k := 0) (i := i) rfl; have HL6 := Lib.hid (hL6.set0 (by omega) (by decide) 11 (.slice (some ⟨gq, 0, none⟩) (ks.length + 1) cq)); clear hS6 hL6 hn6 hb6 hg6)
          clear fx6 hz6 fx hi0 hz0 hz1 hz2 HPU Hown
          have hL7 := HL6.out
          simp only [List.setIfInBounds_toArray, List.set_cons_succ, List.set_cons_zero] at hL7
          clear HL6
          generalize World.setCell _ _ _ = W8 at hL7 ⊢
          have HX := Lib.hid hL7
          clear hL7
          go_roundw
          case rel => exact ⟨ks ++ [⟨z1, z2, z3, z4, z5, .slice (some ⟨g, 0, none⟩) 4 4⟩], .slice (some ⟨gq, 0, none⟩) (ks.length + 1) cq, by simp; omega, by simp, by simpa using HX.out⟩
          case measure => simp [intOf]; omega
      · have hkr : (ks.length : Int) = 1 + r := by omega
        have h13 : 1 ≤ ks.length ∧ ks.length ≤ 3 := by omega
        obtain ⟨gq, cq, rfl, _, _⟩ := own_shape hL.own (by omega)
        have hT := hL.toIn.take (a := [_])
        have fx := hT.facts
        simp only [factsOf, cellsOf, Nat.zero_add, Nat.reduceAdd] at fx
        have hL2 := hL.tail.tail
        have hT2 := hL2.toIn.take (a := [_])
        have fx2 := hT2.facts
        simp only [factsOf, cellsOf, Nat.zero_add, Nat.reduceAdd] at fx2
        have hfz := fun i => hT2.free (k := 0) (i := i) rfl
        have HK := Lib.hid (hL2.all12 (by omega) (by decide) (.string { data := #[111, 110, 101] }) (.bool p.x.neg) (.string p.x.num) (.string p.x.den) (.bool p.y.neg) (.string p.y.num) (.string p.y.den) (.bool false) (.bool z.neg) (.string z.num) (.string z.den) (.slice (some ⟨gq, 0, none⟩) ks.length cq))
        clear hT hT2 hL2 hL
        go_wp2_with fail
        clear fx fx2 hfz
        have hK := HK.out
        clear HK
        generalize World.setCell _ _ _ = W9 at hK ⊢
        refine bodyPost_ret (results_cell_row Tryd.results64 _ _ (w.heap.size) 37 _ (0, 0) _ rfl (hK.toIn.blkAt (k := 0) rfl) Tryd.underlying37 rfl (by kernel_rfl)) rfl ?_
        exact ⟨p, z, _, ks, _, rfl, Hp.out, Hz.out, h13, hw3, hK.tail⟩
end Go.Proofs.YtnnbnecpcppkdaaDoor
