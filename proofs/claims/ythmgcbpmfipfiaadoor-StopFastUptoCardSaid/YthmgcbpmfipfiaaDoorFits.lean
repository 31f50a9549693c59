/- The function 'fits' of StopFast. Conditions: those typed. -/
import Derived.Test.YthmgcbpmfipfiaaDoorFast
import Derived.Test.YthmgcbpmfipfiaaDoorPath
import Derived.Test.YthmgcbpmfipfiaaDoorMid
import Derived.Test.YthmgcbpmfipfiaaDoorBetween
namespace Go.Proofs.YthmgcbpmfipfiaaDoor
open Go.RowKit Go.Gy
set_option linter.unusedVariables false
/-- behind gantref5.Path -/
def PaT (w : World) (l : List (Nat × TypeId × Array Value)) (b q v : Rat) (x : Value × Nat × Bool × Nat) (W : World) : Prop :=
  PathEnd b v x.2.1 ∧ (x.2.2.1 = true ↔ pathV b v x.2.1 = 0) ∧ In w l W ∧ x.2.2.2 ≤ W.heap.size ∧ SlQ W x.2.2.2 x.1 ((pathL b q v x.2.1).map toQ3)
theorem PaT.lasts (w : World) (l : List (Nat × TypeId × Array Value)) (b q v : Rat) (x : Value × Nat × Bool × Nat) : Lasts (PaT w l b q v x) := fun W W' ⟨h1, h2, h3, h4, h5⟩ hb =>
  ⟨h1, h2, h3.call hb, Nat.le_trans h4 hb.size, h5.below (hb.mono h4)⟩
theorem pathQ_qz {b q v : Rat} (hb : 0 < b) {X : Nat} (hX : qz v + qz b + 9 ≤ X) (k : Nat) (hk : k ≤ 2000) : qz (pathQ b q v k) ≤ qz q + k * (X + 1) := by
  induction k with
  | zero => show qz q ≤ _; omega
  | succ k ih =>
    have h1 := qz_add (pathQ b q v k) (pathV b v (k + 1))
    have h2 := pathV_qz (v := v) hb (k + 1) hk
    have h3 := ih (by omega)
    rw [Nat.succ_mul]
    show qz (pathQ b q v k + pathV b v (k + 1)) ≤ _
    omega
set_option maxRecDepth 100000 in
set_option maxHeartbeats 8000000 in
theorem fitsFn (w : World) (hT : TabW w) (k : Lk) (q : Q3) (way m : Int) (hk : k.le 1048576) (hq : q.le 1048576) (hb0 : 0 < k.brake.q) (hway : way = 1 ∨ way = -1) (hm : 0 ≤ m ∧ m ≤ 6401) (gw gq gk : Nat) :
    ∃ r : Bool, (r = true ↔ FitP k.brake.q k.low.q k.high.q q.q (((m * way : Int) : Rat) / ((64 : Int) : Rat))) ∧
    Hid (∀ W, In w [(gw, 3, #[.int .i64 way]), (gq, 27, #[.bool q.neg, .string q.num, .string q.den]), (gk, 86, #[.bool k.len.neg, .string k.len.num, .string k.len.den, .bool k.low.neg, .string k.low.num, .string k.low.den, .bool k.high.neg, .string k.high.num, .string k.high.den, .bool k.speed.neg, .string k.speed.num, .string k.speed.den, .bool k.brake.neg, .string k.brake.num, .string k.brake.den, k.shape])] W → Calls Tryd.prog 67 #[.int .i64 m, .pointer (some ⟨gw, 0, none⟩), .pointer (some ⟨gk, 0, none⟩), .pointer (some ⟨gq, 0, none⟩)] W fun e w' => e = .returned (.bool r) ∧ Below W.heap.size W w') := by
  have HT := Lib.hid hT
  obtain ⟨_, klo, khi, _, kb⟩ := hk
  obtain ⟨r, hr⟩ : ∃ r : Bool, (r = true ↔ FitP k.brake.q k.low.q k.high.q q.q (((m * way : Int) : Rat) / ((64 : Int) : Rat))) := ⟨@decide _ (Classical.propDecidable _), @decide_eq_true_iff _ (Classical.propDecidable _)⟩
  refine ⟨r, hr, Lib.hid fun W0 hJ => ?_⟩
  have hmw : -6401 ≤ m * way ∧ m * way ≤ 6401 := by
    rcases hway with rfl | rfl
    · omega
    · omega
  have hw5 : IntKind.i64.wrap (m * way) = m * way := by rw [IntKind.wrap_i64]; omega
  obtain ⟨v, qv, cv, lv, MV⟩ := makeR w hT (m * way) 64 cast64
  obtain ⟨s, qs, cs, ls, AD⟩ := addR w hT q v hq lv
  obtain ⟨n, e, hTI, _⟩ := ticksR w hT k v lv kb
  rw [← qv] at hr
  have HR := Lib.hid (fun mm hE => hr.trans (fit_path (m := mm) hTI hb0 hE))
  rw [← qs] at HR
  have HPA := Lib.hid (fun W hW => path_any W k.brake s v (N := 2097152) (M := 1048576) cs kb (ls.more (by decide)) (lv.more (by decide)) hb0 (by decide) (tabs w HT.out hW))
  replace MV := up MV hJ.bel
  replace AD := up AD hJ.bel
  have HB0 := Lib.hid hb0
  have HBEL := Lib.hid hJ.bel
  have E := fun W (hb : Below W0.heap.size W0 W) => (hJ.call hb).facts
  simp only [factsOf, cellsOf, Nat.zero_add, Nat.reduceAdd] at E
  have HE := Lib.hid E
  have hI := In.start W0
  have fy := HE.out W0 (Below.refl _ _)
  clear hr qv qs hTI hT hJ E hb0
  go_enter Tryd.func67, Tryd.ntmps67
  go_upto_region 1 with (fail)
  go_wp2_with fail
  refine (MV.out _ hI.bel).mono ?_
  rintro e wn ⟨rfl, hb⟩
  replace hI := hI.call hb
  clear hb
  clear fy
  replace hI := hI.alloc 27 #[.bool v.neg, .string v.num, .string v.den]
  obtain ⟨g, hg⟩ : ∃ g, g = wn.heap.size := ⟨_, rfl⟩
  go_upto_region 2 with (fail)
  rw [← hg] at hI ⊢
  generalize World.alloc _ _ = W2 at hI ⊢
  clear hg
  have HPC : ∀ W, In W0 [(g, 27, #[.bool v.neg, .string v.num, .string v.den])] W → Calls Tryd.prog 62 #[.agg #[.bool k.brake.neg, .string k.brake.num, .string k.brake.den], .agg #[.bool s.neg, .string s.num, .string s.den], .agg #[.bool v.neg, .string v.num, .string v.den], .int .i64 2000] W fun e w'' => ∃ x : Value × Nat × Bool × Nat, e = .returned (.tuple #[x.1, .bool x.2.2.1]) ∧ PaT W0 [(g, 27, #[.bool v.neg, .string v.num, .string v.den])] k.brake.q s.q v.q x w'' := by
    intro W hW
    refine (HPA.out W (HBEL.out.trans (hW.bel.mono HBEL.out.size))).mono ?_
    rintro e w' ⟨p, mm, dd, rfl, hd, hE, ho, hb⟩
    exact ⟨⟨p, mm, dd, w'.heap.size⟩, rfl, hE, hd, hW.call hb, Nat.le_refl _, SlQ.own ho⟩
  go_cut [8, 9] (fun p d wx => ∃ (mm : Nat) (B : Nat) (dd : Bool), d = .bool dd ∧ PaT W0 [(g, 27, #[.bool v.neg, .string v.num, .string v.den])] k.brake.q s.q v.q (p, mm, dd, B) wx)
  case first =>
    as_aux_lemma =>
      refine wp_region_in_mid 6 (fun x : Value × Nat × Bool × Nat => Value.tuple #[x.1, .bool x.2.2.1]) (PaT W0 [(g, 27, #[.bool v.neg, .string v.num, .string v.den])] k.brake.q s.q v.q) (PaT.lasts _ _ _ _ _) _ hI (by kernel_rfl) (by kernel_rfl) rfl ?_
      simp only [List.take_succ_cons, List.take_zero, List.drop_succ_cons, List.drop_zero]
      repeat (first
        | (refine wpSeq_off (by rfl) ?_; try simp only [Act.put, List.setIfInBounds_toArray, List.set_cons_zero, List.set_cons_succ])
        | (refine wpSeq_val (v := ?_) (by rfl) (fun W hS => ?_) ?_
           rotate_left
           · (have fx := hS.facts; simp only [factsOf, cellsOf, Nat.zero_add, Nat.reduceAdd] at fx; have fy0 := HE.out W hS.bel; clear hS; go_simp; first | done | with_reducible rfl)
           try simp only [Act.put, List.setIfInBounds_toArray, List.set_cons_zero, List.set_cons_succ]))
      refine wpSeq_call (v := .agg #[.bool s.neg, .string s.num, .string s.den]) (by rfl) (fun W hS => ?_) (fun W hS => (AD.out W hS.bel)) ?_
      · (clear hS; go_simp; done)
      try simp only [Act.put, List.setIfInBounds_toArray, List.set_cons_zero, List.set_cons_succ]
      repeat (first
        | (refine wpSeq_off (by rfl) ?_; try simp only [Act.put, List.setIfInBounds_toArray, List.set_cons_zero, List.set_cons_succ])
        | (refine wpSeq_val (v := ?_) (by rfl) (fun W hS => ?_) ?_
           rotate_left
           · (have fx := hS.facts; simp only [factsOf, cellsOf, Nat.zero_add, Nat.reduceAdd] at fx; have fy0 := HE.out W hS.bel; clear hS; go_simp; first | done | with_reducible rfl)
           try simp only [Act.put, List.setIfInBounds_toArray, List.set_cons_zero, List.set_cons_succ]))
      refine wpSeq_nil ⟨⟨rfl, fun W hS => ⟨_, _, ?_, HPC W hS⟩⟩, fun x => ?_⟩
      · (clear hS; go_simp; done)
      obtain ⟨p, mm, dd, B⟩ := x
      simp only [List.setIfInBounds_toArray, List.set_cons_zero, List.set_cons_succ]
      repeat (first
        | (refine wpSeq_off (by rfl) ?_; try simp only [Act.put, List.setIfInBounds_toArray, List.set_cons_zero, List.set_cons_succ])
        | (refine wpSeq_val (v := ?_) (by rfl) (fun W hS => ?_) ?_
           rotate_left
           · (clear hS; go_simp; first | done | with_reducible rfl)
           try simp only [Act.put, List.setIfInBounds_toArray, List.set_cons_zero, List.set_cons_succ]))
      refine wpSeq_nil (fun W hS => ?_)
      go_wp2_with fail
      go_meet
      exact ⟨mm, B, dd, rfl, hS⟩
  case rest =>
    clear hI HPA HPC AD MV
    obtain ⟨mm, B, dd, rfl, hE, hd, hI, hB1, hsl⟩ := hcut
    dsimp only at hE hd hI hB1 hsl
    have hR := HR.out mm hE
    cases dd with
    | false =>
      obtain rfl : r = false := by
        cases r with
        | false => rfl
        | true => exact absurd (hd.mpr (hR.mp rfl).1) (by decide)
      clear hd hR hsl
      go_upto_region 3 with (fail)
      refine wp_region_in hI (by kernel_rfl) (by kernel_rfl) ?_
      repeat (first
        | (refine wpSeq_off (by rfl) ?_; try simp only [Act.put, List.setIfInBounds_toArray, List.set_cons_zero, List.set_cons_succ])
        | (refine wpSeq_val (v := ?_) (by rfl) (fun W hS => ?_) ?_
           rotate_left
           · (clear hS; go_simp; first | done | with_reducible rfl)
           try simp only [Act.put, List.setIfInBounds_toArray, List.set_cons_zero, List.set_cons_succ]))
      refine wpSeq_nil (fun W hS => ?_)
      go_wp2
      go_ret
      exact ⟨rfl, hS.bel⟩
    | true =>
      have hp0 := hd.mp rfl
      obtain ⟨A, nn, cc, rfl, hln, hnc, hA, hrd⟩ := hsl
      rw [List.length_map, pathL_length] at hln
      subst hln
      obtain ⟨y, hy⟩ : ∃ y, y = toQ3 (pathQ k.brake.q s.q v.q mm) := ⟨_, rfl⟩
      have hg : ∀ j, j ≤ mm → ((pathL k.brake.q s.q v.q mm).map toQ3)[j]? = some (toQ3 (pathQ k.brake.q s.q v.q j)) := fun j hj => by rw [List.getElem?_map, pathL_get _ _ _ hj]; rfl
      obtain ⟨b, o, rfl, hbB, _⟩ := Rd.quot hrd (hg 0 (Nat.zero_le _))
      have HQ := Lib.hid (show ∀ W, (B ≤ W.heap.size ∧ Rd W B 3 (some ⟨b, o, none⟩) (mm + 1) (((pathL k.brake.q s.q v.q mm).map toQ3).flatMap encQ)) → b < W.heap.size ∧ W.cell? ⟨b, o + mm * 3, none⟩ = some (.bool y.neg) ∧ W.cell? ⟨b, o + mm * 3 + 1, none⟩ = some (.string y.num) ∧ W.cell? ⟨b, o + mm * 3 + 2, none⟩ = some (.string y.den) from by
        intro W ⟨h1, h2⟩
        obtain ⟨b', o', he, _, h4, h5, h6⟩ := Rd.quot h2 (hg mm (Nat.le_refl _))
        cases he
        rw [← hy] at h4 h5 h6
        exact ⟨by omega, h4, h5, h6⟩)
      have HK := Lib.hid (show LastsK (fun W => B ≤ W.heap.size ∧ Rd W B 3 (some ⟨b, o, none⟩) (mm + 1) (((pathL k.brake.q s.q v.q mm).map toQ3).flatMap encQ)) from fun W W' h hb => ⟨Nat.le_trans h.1 hb.size, h.2.below (hb.mono h.1)⟩)
      have hJ : InK W0 _ (fun W => B ≤ W.heap.size ∧ Rd W B 3 (some ⟨b, o, none⟩) (mm + 1) (((pathL k.brake.q s.q v.q mm).map toQ3).flatMap encQ)) wc := ⟨hI, hB1, hrd⟩
      have hE2000 := hE.1
      have hmi : (mm : Int) < (mm : Int) + 1 := by omega
      have hmb : 0 ≤ (mm : Int) ∧ (mm : Int) < ((mm + 1 : Nat) : Int) := by omega
      have hmw2 : IntKind.i64.wrap (mm : Int) = (mm : Int) := by rw [IntKind.wrap_i64]; omega
      have hyl : y.le 1099511627776 := by
        rw [hy]
        have h1 := pathQ_qz (q := s.q) (v := v.q) HB0.out (X := 1048601) (by have := lv.qz (by decide); have := kb.qz (by decide); omega) mm hE2000
        have h2 := ls.qz (by decide)
        exact toQ3_le (by omega)
      have hyq : y.q = pathQ k.brake.q s.q v.q mm := by rw [hy]; exact toQ3_q _
      have BT := betweenR w HT.out k.low y k.high (klo.more (by decide)) hyl (khi.more (by decide))
      replace BT := up BT HBEL.out
      have hbr : btw k.low.q y.q k.high.q = r := by
        rw [Bool.eq_iff_iff, hR, hyq]
        unfold btw
        rw [Bool.and_eq_true, decide_eq_true_iff, decide_eq_true_iff]
        exact ⟨fun h => ⟨hp0, h⟩, fun h => h.2⟩
      rw [hbr] at BT
      clear hI hrd hB1 hE hd hg hp0 hnc hA hy hyl hyq hR hbr HR
      go_upto_region 3 with (fail)
      refine wp_region_inK HK.out hJ (by kernel_rfl) (by kernel_rfl) ?_
      repeat (first
        | (refine wpSeq_off (by rfl) ?_; try simp only [Act.put, List.setIfInBounds_toArray, List.set_cons_zero, List.set_cons_succ])
        | (refine wpSeq_val (v := ?_) (by rfl) (fun W hS => ?_) ?_
           rotate_left
           · ((have fx := hS.facts; simp only [factsOf, cellsOf, Nat.zero_add, Nat.reduceAdd] at fx; have fy := HQ.out W hS.k; have fz := HE.out W hS.bel; clear hS); go_simp; first | done | with_reducible rfl)
           try simp only [Act.put, List.setIfInBounds_toArray, List.set_cons_zero, List.set_cons_succ]))
      refine wpSeq_call (v := .bool r) (by rfl) (fun W hS => ?_) (fun W hS => (BT.out W hS.bel)) ?_
      · (clear hS; go_simp; done)
      try simp only [Act.put, List.setIfInBounds_toArray, List.set_cons_zero, List.set_cons_succ]
      repeat (first
        | (refine wpSeq_off (by rfl) ?_; try simp only [Act.put, List.setIfInBounds_toArray, List.set_cons_zero, List.set_cons_succ])
        | (refine wpSeq_val (v := ?_) (by rfl) (fun W hS => ?_) ?_
           rotate_left
           · (clear hS; go_simp; first | done | with_reducible rfl)
           try simp only [Act.put, List.setIfInBounds_toArray, List.set_cons_zero, List.set_cons_succ]))
      refine wpSeq_nil (fun W hS => ?_)
      go_wp2
      go_ret
      exact ⟨rfl, hS.bel⟩
end Go.Proofs.YthmgcbpmfipfiaaDoor
