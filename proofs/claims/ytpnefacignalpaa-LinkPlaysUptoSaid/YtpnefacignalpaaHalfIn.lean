/- half.in, walked. Conditions: those typed. -/
import Derived.Test.YtpnefacignalpaaHalfQ
namespace Go.Proofs.Ytpnefacignalpaa
open Go.RowKit Go.Gy
set_option linter.unusedVariables false
set_option linter.unusedSimpArgs false
theorem HSt.end_ {w W W' : World} {base E H gb : Nat} {nx wt nx' wt' : Int} {ow ow' : Bool} {vw vg hw hl hg : Value} {ws hs : List WK} {gs hgs : List SM} {cs : Array Value} (h : HSt w base E H nx wt ow vw ws vg gs nx' wt' ow' hw hl hs hg hgs gb cs W) (he : EndAt W' base E 0 1 nx wt ow vw ws vg gs) (hm : Mod (EndF E vw vg) W W') : HSt w base E H nx wt ow vw ws vg gs nx' wt' ow' hw hl hs hg hgs gb cs W' := by
  refine ⟨h.t.end_ he hm (nearV_refl _ _), hm.blk h.bx (fun hf => ?_), h.bel.trans (hm.below (fun g hg hf => by have := (h.t.e.flo g hf).1; omega) h.lo), h.nb, Nat.le_trans h.lo hm.size⟩
  rcases hf with e | e | e
  · have hk := h.bx
    rw [e] at hk
    exact absurd (blk_type hk h.t.e.box) (by decide)
  · obtain ⟨cs', hk'⟩ := h.t.e.rw.blk e
    exact absurd (blk_type h.bx hk') (by decide)
  · exact h.nb.1 e
def HCond (m : GMsg) (nx wt : Int) (ow : Bool) (hs : List WK) (hgs : List SM) (wt2 : Int) (ow2 : Bool) (hs2 : List WK) (hgs2 : List SM) : Prop := (inC m 0 1 nx ≠ 0 → wt2 = wt ∧ ow2 = ow ∧ hs2 = hs ∧ hgs2 = hgs) ∧ (inC m 0 1 nx = 0 → m.kind = 3 → wt2 = wt ∧ ow2 = ow ∧ hs2 = hs.dropWhile (ackB m.seq) ∧ hgs2 = hgs) ∧ (inC m 0 1 nx = 0 → m.kind ≠ 3 → m.seq ≠ wt → wt2 = wt ∧ ow2 = true ∧ hs2 = hs ∧ hgs2 = hgs) ∧ (inC m 0 1 nx = 0 → m.kind ≠ 3 → m.seq = wt → wt2 = wt + 1 ∧ ow2 = true ∧ hs2 = hs ∧ hgs2.map (·.m) = hgs.map (·.m) ++ [m])
def PopQ (H : Nat) (nx wt : Int) (v2 v1 hl hg : Value) (ow : Bool) (W : World) (p : Bool) (W1 : World) : Prop := Blk W1 H 31 #[.int .i64 nx, .int .i64 wt, (match p with | true => v2 | false => v1), hl, hg, .bool ow] ∧ Mod (fun k => k = H) W W1
def HiRel (w : World) (base E H : Nat) (nx wt : Int) (ow : Bool) (vw : Value) (ws : List WK) (vg : Value) (gs : List SM) (hs : List WK) (hg : Value) (hgs : List SM) (gb : Nat) (cs : Array Value) (q : Int) (g : Nat) (wr : World) : Prop := ∃ (hw' hl' : Value) (hs' : List WK), g = hs'.length ∧ hs.dropWhile (ackB q) = hs'.dropWhile (ackB q) ∧ HSt w base E H nx wt ow vw ws vg gs nx wt ow hw' hl' hs' hg hgs gb cs wr
set_option maxRecDepth 100000 in
set_option maxHeartbeats 16000000 in
theorem hin_any (w : World) (base E H B : Nat) (nx wt : Int) (ow : Bool) (vw vg hw hl hg : Value) (ws hs : List WK) (gs hgs : List SM) (ht : TwoAt w base E H nx wt ow vw ws vg gs nx wt ow hw hl hs hg hgs) (hlr : LR B nx wt ws hs gs hgs) (hB : B + 1 ≤ 1073741824) (hbase : base ≤ w.heap.size) (mk mq mc : Int) (ml : List Cell) (A : Option Addr) (n c : Nat) (hM : MsgAt w base ⟨mk, 1, 0, mq, mc, ml⟩ A n c) :
    Calls Try.prog 28 #[.pointer (some ⟨H, 0, none⟩), .pointer (some ⟨E, 0, none⟩), msgV ⟨mk, 1, 0, mq, mc, ml⟩ A n c] w fun e w' => e = .returned (.bool true) ∧ TwoSt base E H (B + 1) w' ∧ Below base w w' := by
  have hb1 : Below w.heap.size w (w.alloc (.cells #[.int .i64 mk, .int .i64 1, .int .i64 0, .int .i64 mq, .int .u32 mc, .slice A n c] 43)) := (Below.refl _ _).alloc (Nat.le_refl _) _
  have hS1 : HSt w base E H nx wt ow vw ws vg gs nx wt ow hw hl hs hg hgs w.heap.size #[.int .i64 mk, .int .i64 1, .int .i64 0, .int .i64 mq, .int .u32 mc, .slice A n c] (w.alloc (.cells #[.int .i64 mk, .int .i64 1, .int .i64 0, .int .i64 mq, .int .u32 mc, .slice A n c] 43)) :=
    ⟨ht.below hb1, Blk.new _ _ _, hb1.mono hbase, ⟨fun e => by have := (ht.e.rg.lt _ e).2; omega, fun e => by have := (ht.h.rw.lt _ e).2; omega, fun e => by have := (ht.h.rg.lt _ e).2; omega⟩, by simp; omega⟩
  obtain ⟨j0, hj0, hy0, hy1, hy2⟩ := info_parts info_msgI
  obtain ⟨F0, hF0⟩ : ∃ F0, F0 = msgF0 ⟨mk, 1, 0, mq, mc, ml⟩ := ⟨_, rfl⟩
  obtain ⟨F1, hF1⟩ : ∃ F1, F1 = cellsF ml := ⟨_, rfl⟩
  obtain ⟨F, hF⟩ : ∃ F, F = msgF ⟨mk, 1, 0, mq, mc, ml⟩ := ⟨_, rfl⟩
  have HMF := Lib.hid (fun W => show Calls Try.prog 18 #[.agg #[.int .i64 mk, .int .i64 1, .int .i64 0, .int .i64 mq, .int .u32 mc, .slice A n c]] W fun e w' => e = .returned (.int .i64 (F0 : Int)) ∧ Below W.heap.size W w' from by rw [hF0]; exact msgfault_any W ⟨mk, 1, 0, mq, mc, ml⟩ A n c hM.len)
  have HCF := Lib.hid (fun W (hW : Below base w W) (hz : base ≤ W.heap.size) => show Calls Try.prog 19 #[.slice A n c] W fun e w' => e = .returned (.int .i64 (F1 : Int)) ∧ Below W.heap.size W w' from by rw [hF1]; exact cellsfault_any W A n c ml hM.len ((hM.rd.below hW).more hz))
  have HFF := Lib.hid (show F = if F0 = 0 then F1 else F0 from by rw [hF, hF0, hF1]; rfl)
  have HIC := Lib.hid (show inC ⟨mk, 1, 0, mq, mc, ml⟩ 0 1 nx = (if F ≠ 0 then F else if mk = 3 ∧ nx < mq then 9 else 0) from by
    unfold inC
    rw [← hF]
    simp only [ne_eq, not_true_eq_false, or_self, if_false])
  have HIN := Lib.hid (fun (W : World) {wt2 : Int} {ow2 : Bool} {hw2 hl2 hg2 : Value} {hs2 : List WK} {hgs2 : List SM} {gb : Nat} {cs : Array Value} (h : HSt w base E H nx wt ow vw ws vg gs nx wt2 ow2 hw2 hl2 hs2 hg2 hgs2 gb cs W) (mk' ms' mt' mq' mc' : Int) => show Calls Try.prog 38 #[.pointer (some ⟨E, 0, none⟩), .agg #[.int .i64 mk', .int .i64 ms', .int .i64 mt', .int .i64 mq', .int .u32 mc', .slice A n c]] W (InPost W base E 0 1 nx wt ow vw ws vg gs ⟨mk', ms', mt', mq', mc', ml⟩ n) from
    in_any W base E 0 1 nx wt ow vw vg ws gs h.t.e h.lo hlr.len (by have := hlr.gl; omega) ⟨mk', ms', mt', mq', mc', ml⟩ A n c ⟨hM.len, hM.cap, hM.none_, hM.bound, (hM.rd.below h.bel).more h.lo⟩ (fun h0 p hp hf => by
      obtain ⟨b, o, e, hb, _⟩ := hM.rd.2 h0
      rw [e] at hp
      cases hp
      have := (h.t.e.flo b hf).1
      omega))
  obtain ⟨FY, hFY⟩ : ∃ FY, FY = msgF0 ⟨mk, 2, 0, mq, mc, ml⟩ := ⟨_, rfl⟩
  have HMY := Lib.hid (fun W => show Calls Try.prog 18 #[.agg #[.int .i64 mk, .int .i64 2, .int .i64 0, .int .i64 mq, .int .u32 mc, .slice A n c]] W fun e w' => e = .returned (.int .i64 (FY : Int)) ∧ Below W.heap.size W w' from by rw [hFY]; exact msgfault_any W ⟨mk, 2, 0, mq, mc, ml⟩ A n c hM.len)
  have HICY := Lib.hid (show FY = 0 → F1 = 0 → inC ⟨mk, 2, 0, mq, mc, ml⟩ 0 1 nx = 16 from fun h1 h2 => by
    have e : msgF ⟨mk, 2, 0, mq, mc, ml⟩ = 0 := by unfold msgF; rw [← hFY, if_pos h1, ← hF1]; exact h2
    unfold inC
    rw [if_neg (fun h => h e), if_pos (.inl (show (2 : Int) ≠ 1 by decide))])
  clear hFY
  have HM := Lib.hid hM
  have HLR := Lib.hid hlr
  have hwt := hlr.wt
  clear hM ht hlr hF0 hF1 hb1
  have HFD := Lib.hid hF
  clear hF
  go_enter Try.func28, Try.ntmps28
  go_upto_region 1 with (fail)
  generalize w.alloc (.cells #[.int .i64 mk, .int .i64 1, .int .i64 0, .int .i64 mq, .int .u32 mc, .slice A n c] 43) = w1 at hS1 ⊢
  obtain ⟨gb, hgb⟩ : ∃ gb, gb = w.heap.size := ⟨_, rfl⟩
  rw [← hgb] at hS1 ⊢
  have HS1 := Lib.hid hS1
  have z0 := HS1.out.bx.cell 0 _ rfl
  have z1 := HS1.out.bx.cell 1 _ rfl
  have z2 := HS1.out.bx.cell 2 _ rfl
  have z3 := HS1.out.bx.cell 3 _ rfl
  have z4 := HS1.out.bx.cell 4 _ rfl
  have z5 := HS1.out.bx.cell 5 _ rfl
  clear hS1 hgb
  go_wp2_with fail
  refine (HMF.out _).mono ?_
  rintro e w2 ⟨rfl, hb2⟩
  have HS2 := Lib.hid (HS1.out.below hb2)
  clear hb2 HS1 z0 z1 z2 z3 z4 z5
  have HS1 := HS2
  clear HS2
  have z0 := HS1.out.bx.cell 0 _ rfl
  have z1 := HS1.out.bx.cell 1 _ rfl
  have z2 := HS1.out.bx.cell 2 _ rfl
  have z3 := HS1.out.bx.cell 3 _ rfl
  have z4 := HS1.out.bx.cell 4 _ rfl
  have z5 := HS1.out.bx.cell 5 _ rfl
  go_upto_if 12 with (fail)
  go_cut [7, 12] (fun q _ wx => q = .int .i64 (F : Int) ∧ HSt w base E H nx wt ow vw ws vg gs nx wt ow hw hl hs hg hgs gb #[.int .i64 mk, .int .i64 1, .int .i64 0, .int .i64 mq, .int .u32 mc, .slice A n c] wx)
  case first =>
    by_cases hf0 : F0 = 0
    · have hf1 : ((F0 : Int) == 0) = true := by simp; omega
      have HF1 := Lib.hid (HFF.out.trans (if_pos hf0))
      go_wp2_with fail
      refine (HCF.out _ HS1.out.bel HS1.out.lo).mono ?_
      rintro e w3 ⟨rfl, hb3⟩
      have HS3 := Lib.hid (HS1.out.below hb3)
      clear hb3
      go_wp2_with fail
      go_meet
      exact ⟨by rw [HF1.out], HS3.out⟩
    · have hf1 : ((F0 : Int) == 0) = false := by simp; omega
      have HF1 := Lib.hid (HFF.out.trans (if_neg hf0))
      go_wp2_with fail
      go_meet
      exact ⟨by rw [HF1.out], HS1.out⟩
  case rest =>
    obtain ⟨rfl, hS1⟩ := hcut
    clear z0 z1 z2 z3 z4 z5 HS1
    obtain ⟨w3, rfl⟩ : ∃ w3, w3 = wc := ⟨_, rfl⟩
    have HS1 := Lib.hid hS1
    clear hS1
    have z0 := HS1.out.bx.cell 0 _ rfl
    have z1 := HS1.out.bx.cell 1 _ rfl
    have z2 := HS1.out.bx.cell 2 _ rfl
    have z3 := HS1.out.bx.cell 3 _ rfl
    have z4 := HS1.out.bx.cell 4 _ rfl
    have z5 := HS1.out.bx.cell 5 _ rfl
    by_cases hF0 : F = 0
    · subst hF0
      by_cases hk3 : mk = 3
      · have hkq : (mk == 3) = true := by simpa using hk3
        have HK3 := Lib.hid hk3
        go_upto_region 5 with (fail)
        by_cases hq : nx < mq
        · have HICV := Lib.hid (HIC.out.trans ((if_neg (by simp)).trans (if_pos ⟨hk3, hq⟩)))
          have HC := Lib.hid (show HCond ⟨mk, 1, 0, mq, mc, ml⟩ nx wt ow hs hgs wt ow hs hgs from
            ⟨fun _ => ⟨rfl, rfl, rfl, rfl⟩, fun h => absurd (HICV.out.symm.trans h) (by decide), fun h => absurd (HICV.out.symm.trans h) (by decide), fun h => absurd (HICV.out.symm.trans h) (by decide)⟩)
          clear hk3
          refine wp_region_seq (fun W => HSt w base E H nx wt ow vw ws vg gs nx wt ow hw hl hs hg hgs gb #[.int .i64 mk, .int .i64 1, .int .i64 0, .int .i64 mq, .int .u32 mc, .slice A n c] W) (fun W W' h hb => h.below hb) (by kernel_rfl) (by kernel_rfl) (HS1.out.below (Below.refl _ _).drew) ?_
          clear HS1
          repeat (first
            | (refine wpSeq_off (by rfl) ?_; try simp only [Act.put, List.setIfInBounds_toArray, List.set_cons_zero, List.set_cons_succ])
            | (refine wpSeq_val (v := .bool true) (by rfl) (fun W hS => ?_) ?_
               · (clear hS; go_simp; done)
               try simp only [Act.put, List.setIfInBounds_toArray, List.set_cons_zero, List.set_cons_succ])
            | (refine wpSeq_val (v := .bool false) (by rfl) (fun W hS => ?_) ?_
               · (clear hS; go_simp; done)
               try simp only [Act.put, List.setIfInBounds_toArray, List.set_cons_zero, List.set_cons_succ])
            | (refine wpSeq_val (v := ?_) (by rfl) (fun W hS => ?_) ?_
               rotate_left
               · ((have c0 := hS.t.h.box.cell 0 _ rfl; have z3 := hS.bx.cell 3 _ rfl; clear hS); go_simp; first | done | with_reducible rfl)
               try simp only [Act.put, List.setIfInBounds_toArray, List.set_cons_zero, List.set_cons_succ]))
          refine wpSeq_nil (fun W hS => ?_)
          have HSR := Lib.hid hS
          clear hS z0 z1 z2 z3 z4 z5
          have z0 := HSR.out.bx.cell 0 _ rfl
          have z1 := HSR.out.bx.cell 1 _ rfl
          have z2 := HSR.out.bx.cell 2 _ rfl
          have z3 := HSR.out.bx.cell 3 _ rfl
          have z4 := HSR.out.bx.cell 4 _ rfl
          have z5 := HSR.out.bx.cell 5 _ rfl
          go_wp2_with fail
          refine (HIN.out _ HSR.out mk 1 0 mq mc).mono ?_
          intro e wd hpd
          obtain ⟨rfl, hT, hB9⟩ := HSR.out.in_ HLR.out hB hpd HC.out
          have HT := Lib.hid hT
          have HBW := Lib.hid hB9
          clear hpd hT hB9
          rw [HICV.out]
          go_wp2_with fail
          go_ret
          exact ⟨rfl, HT.out, HBW.out⟩
        · have HICV := Lib.hid (HIC.out.trans ((if_neg (by simp)).trans (if_neg (fun h => hq h.2))))
          clear hk3
          refine wp_region_seq (fun W => HSt w base E H nx wt ow vw ws vg gs nx wt ow hw hl hs hg hgs gb #[.int .i64 mk, .int .i64 1, .int .i64 0, .int .i64 mq, .int .u32 mc, .slice A n c] W) (fun W W' h hb => h.below hb) (by kernel_rfl) (by kernel_rfl) (HS1.out.below (Below.refl _ _).drew) ?_
          clear HS1
          repeat (first
            | (refine wpSeq_off (by rfl) ?_; try simp only [Act.put, List.setIfInBounds_toArray, List.set_cons_zero, List.set_cons_succ])
            | (refine wpSeq_val (v := .bool true) (by rfl) (fun W hS => ?_) ?_
               · (clear hS; go_simp; done)
               try simp only [Act.put, List.setIfInBounds_toArray, List.set_cons_zero, List.set_cons_succ])
            | (refine wpSeq_val (v := .bool false) (by rfl) (fun W hS => ?_) ?_
               · (clear hS; go_simp; done)
               try simp only [Act.put, List.setIfInBounds_toArray, List.set_cons_zero, List.set_cons_succ])
            | (refine wpSeq_val (v := ?_) (by rfl) (fun W hS => ?_) ?_
               rotate_left
               · ((have c0 := hS.t.h.box.cell 0 _ rfl; have z3 := hS.bx.cell 3 _ rfl; clear hS); go_simp; first | done | with_reducible rfl)
               try simp only [Act.put, List.setIfInBounds_toArray, List.set_cons_zero, List.set_cons_succ]))
          refine wpSeq_nil (fun W hS => ?_)
          have HS4 := Lib.hid hS
          clear hS z0 z1 z2 z3 z4 z5 hq
          go_wp2_with fail
          go_loopg [] hs.length (fun g wr => HiRel w base E H nx wt ow vw ws vg gs hs hg hgs gb #[.int .i64 mk, .int .i64 1, .int .i64 0, .int .i64 mq, .int .u32 mc, .slice A n c] mq g wr)
          case atStart => exact ⟨hw, hl, hs, rfl, rfl, HS4.out⟩
          case round =>
            obtain ⟨wq, rfl⟩ : ∃ wq, wq = wr := ⟨_, rfl⟩
            clear HS4
            obtain ⟨hw', hl', hs', hgl, hdw, hS⟩ := hrel
            obtain ⟨A', c', hvw, hnc, _, hAn, hrd⟩ := hS.t.h.rw.rd
            subst hvw
            have HI := Lib.hid hS
            have HDW := Lib.hid hdw
            clear hS hdw
            cases hs' with
            | nil =>
              have HC := Lib.hid (show HCond ⟨mk, 1, 0, mq, mc, ml⟩ nx wt ow hs hgs wt ow [] hgs from
                ⟨fun h => absurd HICV.out h, fun _ _ => ⟨rfl, rfl, by rw [HDW.out]; rfl, rfl⟩, fun _ h => absurd HK3.out h, fun _ h => absurd HK3.out h⟩)
              go_upto_region 7 with (fail)
              refine wp_region_seq (fun W => HSt w base E H nx wt ow vw ws vg gs nx wt ow (.slice A' 0 c') hl' [] hg hgs gb #[.int .i64 mk, .int .i64 1, .int .i64 0, .int .i64 mq, .int .u32 mc, .slice A n c] W) (fun W W' h hb => h.below hb) (by kernel_rfl) (by kernel_rfl) (HI.out.below (Below.refl _ _).drew) ?_
              clear HI
              repeat (first
                | (refine wpSeq_off (by rfl) ?_; try simp only [Act.put, List.setIfInBounds_toArray, List.set_cons_zero, List.set_cons_succ])
                | (refine wpSeq_val (v := .bool true) (by rfl) (fun W hS => ?_) ?_
                   · (clear hS; go_simp; done)
                   try simp only [Act.put, List.setIfInBounds_toArray, List.set_cons_zero, List.set_cons_succ])
                | (refine wpSeq_val (v := .bool false) (by rfl) (fun W hS => ?_) ?_
                   · (clear hS; go_simp; done)
                   try simp only [Act.put, List.setIfInBounds_toArray, List.set_cons_zero, List.set_cons_succ])
                | (refine wpSeq_val (v := ?_) (by rfl) (fun W hS => ?_) ?_
                   rotate_left
                   · ((have c2 := hS.t.h.box.cell 2 _ rfl; clear hS); go_simp; first | done | with_reducible rfl)
                   try simp only [Act.put, List.setIfInBounds_toArray, List.set_cons_zero, List.set_cons_succ]))
              refine wpSeq_nil (fun W hS => ?_)
              have HSR := Lib.hid hS
              clear hS
              have z0 := HSR.out.bx.cell 0 _ rfl
              have z1 := HSR.out.bx.cell 1 _ rfl
              have z2 := HSR.out.bx.cell 2 _ rfl
              have z3 := HSR.out.bx.cell 3 _ rfl
              have z4 := HSR.out.bx.cell 4 _ rfl
              have z5 := HSR.out.bx.cell 5 _ rfl
              go_wp2_with fail
              refine (HIN.out _ HSR.out mk 1 0 mq mc).mono ?_
              intro e wd hpd
              obtain ⟨rfl, hT, hB9⟩ := HSR.out.in_ HLR.out hB hpd HC.out
              have HT := Lib.hid hT
              have HBW := Lib.hid hB9
              clear hpd hT hB9
              rw [HICV.out]
              go_wp2_with fail
              go_ret
              exact ⟨rfl, HT.out, HBW.out⟩
            | cons x rest =>
              obtain ⟨⟨⟨xk, xs, xt, xq, xc, xl⟩, xA, xn, xcc⟩, xla⟩ := x
              obtain ⟨b1, o1, x', rfl, hbB, hgx, hcc⟩ := hrd.elem encH_len rfl (show 0 < (List.cons ((⟨⟨xk, xs, xt, xq, xc, xl⟩, xA, xn, xcc⟩, xla) : WK) rest).length from Nat.succ_pos _)
              have hx' : x' = (⟨⟨xk, xs, xt, xq, xc, xl⟩, xA, xn, xcc⟩, xla) := by
                simp at hgx
                exact hgx.symm
              subst hx'
              have hx3 : wq.cell? ⟨b1, o1 + 3, none⟩ = some (.int .i64 xq) := by
                have := hcc 3 (.int .i64 xq) rfl
                rwa [Nat.zero_mul, Nat.add_zero] at this
              have HX3 := Lib.hid hx3
              have hl0 : (0 : Int) < ((rest.length + 1 : Nat) : Int) := by omega
              rw [List.length_cons] at HI hnc
              clear hx3 hcc hgx hrd hbB hAn
              go_upto_region 7 with (fail)
              by_cases hlt : xq < mq
              · refine wp_region_seq (fun W => (HSt w base E H nx wt ow vw ws vg gs nx wt ow (.slice (some ⟨b1, o1, none⟩) (rest.length + 1) c') hl' ((⟨⟨xk, xs, xt, xq, xc, xl⟩, xA, xn, xcc⟩, xla) :: rest) hg hgs gb #[.int .i64 mk, .int .i64 1, .int .i64 0, .int .i64 mq, .int .u32 mc, .slice A n c] W) ∧ W.cell? ⟨b1, o1 + 3, none⟩ = some (.int .i64 xq)) (fun W W' h hb => ⟨h.1.below hb, cell_lasts _ _ _ _ h.2 hb⟩) (by kernel_rfl) (by kernel_rfl) ⟨HI.out.below (Below.refl _ _).drew, cell_lasts _ _ _ _ HX3.out (Below.refl _ _).drew⟩ ?_
                clear HI HX3
                repeat (first
                  | (refine wpSeq_off (by rfl) ?_; try simp only [Act.put, List.setIfInBounds_toArray, List.set_cons_zero, List.set_cons_succ])
                  | (refine wpSeq_val (v := .bool true) (by rfl) (fun W hS => ?_) ?_
                     · (clear hS; go_simp; done)
                     try simp only [Act.put, List.setIfInBounds_toArray, List.set_cons_zero, List.set_cons_succ])
                  | (refine wpSeq_val (v := .bool false) (by rfl) (fun W hS => ?_) ?_
                     · (clear hS; go_simp; done)
                     try simp only [Act.put, List.setIfInBounds_toArray, List.set_cons_zero, List.set_cons_succ])
                  | (refine wpSeq_val (v := ?_) (by rfl) (fun W hS => ?_) ?_
                     rotate_left
                     · ((have c2 := hS.1.t.h.box.cell 2 _ rfl; have h3 := hS.2; have z3 := hS.1.bx.cell 3 _ rfl; clear hS); go_simp; first | done | with_reducible rfl)
                     try simp only [Act.put, List.setIfInBounds_toArray, List.set_cons_zero, List.set_cons_succ]))
                refine wpSeq_nil (fun W hS => ?_)
                obtain ⟨w7, rfl⟩ : ∃ w7, w7 = W := ⟨_, rfl⟩
                obtain ⟨c1, rfl⟩ : ∃ c1, c1 = c' := ⟨_, rfl⟩
                obtain ⟨A2, c2, hvl, hn2, _, _, hrd2⟩ := hS.1.t.h.rl.rd
                rw [List.length_cons] at hvl hn2 hrd2
                obtain ⟨b2, o2, e2, _, _⟩ := hrd2.2 (Nat.succ_pos _)
                subst e2
                subst hvl
                have hn1 := hnc
                obtain ⟨Av, hAv⟩ : ∃ Av : Option Addr, Av = some (if c1 = 1 then ⟨b1, o1, none⟩ else ⟨b1, o1 + 6, none⟩) := ⟨_, rfl⟩
                obtain ⟨Al, hAl⟩ : ∃ Al : Option Addr, Al = some (if c2 = 1 then ⟨b2, o2, none⟩ else ⟨b2, o2 + 1, none⟩) := ⟨_, rfl⟩
                have HAV := Lib.hid hAv
                have HAL := Lib.hid hAl
                have HS7 := Lib.hid hS.1
                clear hS hrd2 hAv hAl hnc
                go_upto_region 8 with (fail)
                refine wp_region_invK 17 (SetJ (fun i => ([some (.pointer (some ⟨H, 0, none⟩)), some (.pointer (some ⟨H, 0, none⟩)), some (.pointer (some ⟨H, 0, none⟩)), some (.pointer (some ⟨H, 0, none⟩)), some (.pointer (some ⟨H, 2, none⟩)), some (.slice (some ⟨b1, o1, none⟩) (rest.length + 1) c1), some (.slice Av rest.length (c1 - 1)), some (.pointer (some ⟨H, 0, none⟩)), some (.pointer (some ⟨H, 0, none⟩)), some (.pointer (some ⟨H, 3, none⟩)), some (.slice (some ⟨b2, o2, none⟩) (rest.length + 1) c2), some (.slice Al rest.length (c2 - 1)), some (.pointer (some ⟨H, 0, none⟩)), some (.pointer (some ⟨H, 2, none⟩)), none, some (.pointer (some ⟨H, 0, none⟩)), some (.pointer (some ⟨H, 3, none⟩))] : List (Option Value)).getD i none) [(5, 6), (6, 14)] 14 99 (fun p _ W1 => PopQ H nx wt (.slice Av rest.length (c1 - 1)) (.slice (some ⟨b1, o1, none⟩) (rest.length + 1) c1) (.slice (some ⟨b2, o2, none⟩) (rest.length + 1) c2) hg ow w7 p W1)) (by kernel_rfl) (by kernel_rfl) (SetJ.start ⟨HS7.out.t.h.box.below (Below.refl _ _).drew HS7.out.t.h.box.lt, Mod.of_below (Below.refl _ _).drew⟩) ?_ ?_
                · intro i o hi ho s vs W hJ hs hdep
                  rcases i with _ | _ | _ | _ | _ | _ | _ | _ | _ | _ | _ | _ | _ | _ | _ | _ | _ | i
                  all_goals first | omega | skip
                  all_goals (simp only [List.getElem?_cons_succ, List.getElem?_cons_zero, Option.some.injEq] at ho; subst ho)
                  · refine StepJ.val (v := .pointer (some ⟨H, 0, none⟩)) rfl ?_ (hJ.same (by omega) (by omega) (by simp) rfl)
                    clear hJ hdep 
                    unfold lexA
                    simp only [putAll, preI, Nat.reduceLT, Nat.reduceAdd, decide_false, Bool.false_eq_true, if_false]
                    go_simp
                  · refine StepJ.val (v := .pointer (some ⟨H, 0, none⟩)) rfl ?_ (hJ.same (by omega) (by omega) (by simp) rfl)
                    clear hJ hdep 
                    unfold lexA
                    simp only [putAll, preI, Nat.reduceLT, Nat.reduceAdd, decide_true, decide_false, Bool.false_eq_true, if_true, if_false, Act.put, List.setIfInBounds_toArray, List.set_cons_zero, List.set_cons_succ]
                    go_simp
                  · refine StepJ.val (v := .pointer (some ⟨H, 0, none⟩)) rfl ?_ (hJ.same (by omega) (by omega) (by simp) rfl)
                    clear hJ hdep 
                    unfold lexA
                    simp only [putAll, preI, Nat.reduceLT, Nat.reduceAdd, decide_true, decide_false, Bool.false_eq_true, if_true, if_false, Act.put, List.setIfInBounds_toArray, List.set_cons_zero, List.set_cons_succ]
                    go_simp
                  · have d2 : vs 2 = .pointer (some ⟨H, 0, none⟩) := hJ.dt 2 _ (hdep ⟨2, .data⟩ (by simp) rfl) rfl
                    refine StepJ.val (v := .pointer (some ⟨H, 0, none⟩)) rfl ?_ (hJ.same (by omega) (by omega) (by simp) rfl)
                    clear hJ hdep 
                    unfold lexA
                    simp only [putAll, preI, Nat.reduceLT, Nat.reduceAdd, decide_true, decide_false, Bool.false_eq_true, if_true, if_false, Act.put, List.setIfInBounds_toArray, List.set_cons_zero, List.set_cons_succ]
                    go_simp
                  · have d3 : vs 3 = .pointer (some ⟨H, 0, none⟩) := hJ.dt 3 _ (hdep ⟨3, .data⟩ (by simp) rfl) rfl
                    refine StepJ.val (v := .pointer (some ⟨H, 2, none⟩)) rfl ?_ (hJ.same (by omega) (by omega) (by simp) rfl)
                    clear hJ hdep 
                    unfold lexA
                    simp only [putAll, preI, Nat.reduceLT, Nat.reduceAdd, decide_true, decide_false, Bool.false_eq_true, if_true, if_false, Act.put, List.setIfInBounds_toArray, List.set_cons_zero, List.set_cons_succ]
                    go_simp
                  · have d4 : vs 4 = .pointer (some ⟨H, 2, none⟩) := hJ.dt 4 _ (hdep ⟨4, .data⟩ (by simp) rfl) rfl
                    have h14 : s 14 = false := by
                      cases e : s 14 with
                      | false => rfl
                      | true => exact absurd (hJ.w2 (5, 6) (by simp) (hJ.w2 (6, 14) (by simp) e)) (by simp [hs])
                    have hq := hJ.q
                    rw [h14] at hq
                    have c2' : W.cell? ⟨H, 2, none⟩ = some (.slice (some ⟨b1, o1, none⟩) (rest.length + 1) c1) := hq.1.cell 2 _ rfl
                    refine StepJ.val (v := .slice (some ⟨b1, o1, none⟩) (rest.length + 1) c1) rfl ?_ (hJ.same (by omega) (by omega) (by simp) rfl)
                    clear hJ hdep hq
                    unfold lexA
                    simp only [putAll, preI, Nat.reduceLT, Nat.reduceAdd, decide_true, decide_false, Bool.false_eq_true, if_true, if_false, Act.put, List.setIfInBounds_toArray, List.set_cons_zero, List.set_cons_succ]
                    go_simp
                  · have d5 : vs 5 = .slice (some ⟨b1, o1, none⟩) (rest.length + 1) c1 := hJ.dt 5 _ (hdep ⟨5, .data⟩ (by simp) rfl) rfl
                    refine StepJ.val (v := .slice Av rest.length (c1 - 1)) rfl ?_ (hJ.same (by omega) (by omega) (by simp; exact hdep ⟨5, .data⟩ (by simp) rfl) rfl)
                    clear hJ hdep
                    rw [HAV.out]
                    refine exec_slice1M (.tmp 53) rfl b1 o1 rest.length c1 ?_ rfl hn1
                    unfold lexA
                    simp only [putAll, preI, Nat.reduceLT, Nat.reduceAdd, decide_true, decide_false, Bool.false_eq_true, if_true, if_false, Act.put, List.setIfInBounds_toArray, List.set_cons_zero, List.set_cons_succ]
                    rw [d5]
                    rfl
                  · refine StepJ.val (v := .pointer (some ⟨H, 0, none⟩)) rfl ?_ (hJ.same (by omega) (by omega) (by simp) rfl)
                    clear hJ hdep 
                    unfold lexA
                    simp only [putAll, preI, Nat.reduceLT, Nat.reduceAdd, decide_true, decide_false, Bool.false_eq_true, if_true, if_false, Act.put, List.setIfInBounds_toArray, List.set_cons_zero, List.set_cons_succ]
                    go_simp
                  · have d7 : vs 7 = .pointer (some ⟨H, 0, none⟩) := hJ.dt 7 _ (hdep ⟨7, .data⟩ (by simp) rfl) rfl
                    refine StepJ.val (v := .pointer (some ⟨H, 0, none⟩)) rfl ?_ (hJ.same (by omega) (by omega) (by simp) rfl)
                    clear hJ hdep 
                    unfold lexA
                    simp only [putAll, preI, Nat.reduceLT, Nat.reduceAdd, decide_true, decide_false, Bool.false_eq_true, if_true, if_false, Act.put, List.setIfInBounds_toArray, List.set_cons_zero, List.set_cons_succ]
                    go_simp
                  · have d8 : vs 8 = .pointer (some ⟨H, 0, none⟩) := hJ.dt 8 _ (hdep ⟨8, .data⟩ (by simp) rfl) rfl
                    refine StepJ.val (v := .pointer (some ⟨H, 3, none⟩)) rfl ?_ (hJ.same (by omega) (by omega) (by simp) rfl)
                    clear hJ hdep 
                    unfold lexA
                    simp only [putAll, preI, Nat.reduceLT, Nat.reduceAdd, decide_true, decide_false, Bool.false_eq_true, if_true, if_false, Act.put, List.setIfInBounds_toArray, List.set_cons_zero, List.set_cons_succ]
                    go_simp
                  · have d9 : vs 9 = .pointer (some ⟨H, 3, none⟩) := hJ.dt 9 _ (hdep ⟨9, .data⟩ (by simp) rfl) rfl
                    have c3' : W.cell? ⟨H, 3, none⟩ = some (.slice (some ⟨b2, o2, none⟩) (rest.length + 1) c2) := by
                      have hq := hJ.q
                      cases e : s 14 with
                      | false => exact hq.1.cell 3 _ rfl
                      | true => exact hq.1.cell 3 _ rfl
                    refine StepJ.val (v := .slice (some ⟨b2, o2, none⟩) (rest.length + 1) c2) rfl ?_ (hJ.same (by omega) (by omega) (by simp) rfl)
                    clear hJ hdep
                    unfold lexA
                    simp only [putAll, preI, Nat.reduceLT, Nat.reduceAdd, decide_true, decide_false, Bool.false_eq_true, if_true, if_false, Act.put, List.setIfInBounds_toArray, List.set_cons_zero, List.set_cons_succ]
                    go_simp
                  · have d10 : vs 10 = .slice (some ⟨b2, o2, none⟩) (rest.length + 1) c2 := hJ.dt 10 _ (hdep ⟨10, .data⟩ (by simp) rfl) rfl
                    refine StepJ.val (v := .slice Al rest.length (c2 - 1)) rfl ?_ (hJ.same (by omega) (by omega) (by simp) rfl)
                    clear hJ hdep
                    rw [HAL.out]
                    refine exec_slice1L (.tmp 58) rfl b2 o2 rest.length c2 ?_ rfl hn2
                    unfold lexA
                    simp only [putAll, preI, Nat.reduceLT, Nat.reduceAdd, decide_true, decide_false, Bool.false_eq_true, if_true, if_false, Act.put, List.setIfInBounds_toArray, List.set_cons_zero, List.set_cons_succ]
                    rw [d10]
                    rfl
                  · have d0 : vs 0 = .pointer (some ⟨H, 0, none⟩) := hJ.dt 0 _ (hdep ⟨0, .data⟩ (by simp) rfl) rfl
                    refine StepJ.val (v := .pointer (some ⟨H, 0, none⟩)) rfl ?_ (hJ.same (by omega) (by omega) (by simp) rfl)
                    clear hJ hdep 
                    unfold lexA
                    simp only [putAll, preI, Nat.reduceLT, Nat.reduceAdd, decide_true, decide_false, Bool.false_eq_true, if_true, if_false, Act.put, List.setIfInBounds_toArray, List.set_cons_zero, List.set_cons_succ]
                    go_simp
                  · have d12 : vs 12 = .pointer (some ⟨H, 0, none⟩) := hJ.dt 12 _ (hdep ⟨12, .data⟩ (by simp) rfl) rfl
                    refine StepJ.val (v := .pointer (some ⟨H, 2, none⟩)) rfl ?_ (hJ.same (by omega) (by omega) (by simp) rfl)
                    clear hJ hdep 
                    unfold lexA
                    simp only [putAll, preI, Nat.reduceLT, Nat.reduceAdd, decide_true, decide_false, Bool.false_eq_true, if_true, if_false, Act.put, List.setIfInBounds_toArray, List.set_cons_zero, List.set_cons_succ]
                    go_simp
                  · have d13 : vs 13 = .pointer (some ⟨H, 2, none⟩) := hJ.dt 13 _ (hdep ⟨13, .data⟩ (by simp) rfl) rfl
                    have d6 : vs 6 = .slice Av rest.length (c1 - 1) := hJ.dt 6 _ (hdep ⟨6, .data⟩ (by simp) rfl) rfl
                    have hq := hJ.q
                    rw [hs] at hq
                    have c2' : W.cell? ⟨H, 2, none⟩ = some (.slice (some ⟨b1, o1, none⟩) (rest.length + 1) c1) := hq.1.cell 2 _ rfl
                    have cf := fun i => hq.1.free i
                    refine StepJ.skip (W' := W.setCell ⟨H, 2, none⟩ (.slice Av rest.length (c1 - 1))) rfl ?_ (hJ.set1 (by omega) (by simp; exact hdep ⟨6, .data⟩ (by simp) rfl) rfl ⟨hq.1.set 2 _, hq.2.set (g := H) (fun _ => rfl) 2 _⟩)
                    clear hJ hdep hq
                    unfold lexA
                    simp only [putAll, preI, Nat.reduceLT, Nat.reduceAdd, decide_true, decide_false, Bool.false_eq_true, if_true, if_false, Act.put, List.setIfInBounds_toArray, List.set_cons_zero, List.set_cons_succ]
                    go_simp
                  · have d1 : vs 1 = .pointer (some ⟨H, 0, none⟩) := hJ.dt 1 _ (hdep ⟨1, .data⟩ (by simp) rfl) rfl
                    refine StepJ.val (v := .pointer (some ⟨H, 0, none⟩)) rfl ?_ (hJ.same (by omega) (by omega) (by simp) rfl)
                    clear hJ hdep 
                    unfold lexA
                    simp only [putAll, preI, Nat.reduceLT, Nat.reduceAdd, decide_true, decide_false, Bool.false_eq_true, if_true, if_false, Act.put, List.setIfInBounds_toArray, List.set_cons_zero, List.set_cons_succ]
                    go_simp
                  · have d15 : vs 15 = .pointer (some ⟨H, 0, none⟩) := hJ.dt 15 _ (hdep ⟨15, .data⟩ (by simp) rfl) rfl
                    refine StepJ.val (v := .pointer (some ⟨H, 3, none⟩)) rfl ?_ (hJ.same (by omega) (by omega) (by simp) rfl)
                    clear hJ hdep 
                    unfold lexA
                    simp only [putAll, preI, Nat.reduceLT, Nat.reduceAdd, decide_true, decide_false, Bool.false_eq_true, if_true, if_false, Act.put, List.setIfInBounds_toArray, List.set_cons_zero, List.set_cons_succ]
                    go_simp
                · intro s vs W hall hJ
                  have hq := hJ.q
                  rw [hall 14 (by omega)] at hq
                  have d11 : vs 11 = .slice Al rest.length (c2 - 1) := hJ.dt 11 _ (hall 11 (by omega)) rfl
                  have d16 : vs 16 = .pointer (some ⟨H, 3, none⟩) := hJ.dt 16 _ (hall 16 (by omega)) rfl
                  have y0 : W.cell? ⟨H, 3, none⟩ = some (.slice (some ⟨b2, o2, none⟩) (rest.length + 1) c2) := hq.1.cell 3 _ rfl
                  have y1 := hq.1.free 3
                  have hm9 : Mod (fun k => k = H) w7 (W.setCell ⟨H, 3, none⟩ (.slice Al rest.length (c2 - 1))) := hq.2.set (g := H) (fun _ => rfl) 3 _
                  have hb9 : Blk (W.setCell ⟨H, 3, none⟩ (.slice Al rest.length (c2 - 1))) H 31 #[.int .i64 nx, .int .i64 wt, .slice Av rest.length (c1 - 1), .slice Al rest.length (c2 - 1), hg, .bool ow] := hq.1.set 3 _
                  obtain ⟨hH9, ho9⟩ := HS7.out.t.h.pop (by rw [HAV.out]) (by rw [HAL.out]) hm9 hb9
                  have hS9 := HS7.out.half hH9 (hm9.mono (fun k _ e => Or.inl e)) (fun g hg => .inl (ho9 g hg)) (nearV_refl _ _)
                  have HX := Lib.hid (show HiRel w base E H nx wt ow vw ws vg gs hs hg hgs gb #[.int .i64 mk, .int .i64 1, .int .i64 0, .int .i64 mq, .int .u32 mc, .slice A n c] mq rest.length (W.setCell ⟨H, 3, none⟩ (.slice Al rest.length (c2 - 1))) from ⟨_, _, rest, rfl, by rw [HDW.out, List.dropWhile_cons_of_pos (by simpa [ackB] using hlt)], hS9⟩)
                  clear hJ hall hq hm9 hb9 hH9 ho9 hS9
                  unfold lexA
                  simp only [putAll, preI, Nat.reduceLT, Nat.reduceAdd, decide_true, decide_false, Bool.false_eq_true, if_true, if_false, Act.put, List.setIfInBounds_toArray, List.set_cons_zero, List.set_cons_succ, List.drop_succ_cons, List.drop_zero]
                  rw [d11, d16]
                  go_wp2_with fail
                  go_roundg rest.length
                  case measure => simp at hgl; omega
                  case rel => exact HX.out
              · have HC := Lib.hid (show HCond ⟨mk, 1, 0, mq, mc, ml⟩ nx wt ow hs hgs wt ow ((⟨⟨xk, xs, xt, xq, xc, xl⟩, xA, xn, xcc⟩, xla) :: rest) hgs from
                  ⟨fun h => absurd HICV.out h, fun _ _ => ⟨rfl, rfl, by rw [HDW.out, List.dropWhile_cons_of_neg (by simpa [ackB] using hlt)], rfl⟩, fun _ h => absurd HK3.out h, fun _ h => absurd HK3.out h⟩)
                refine wp_region_seq (fun W => (HSt w base E H nx wt ow vw ws vg gs nx wt ow (.slice (some ⟨b1, o1, none⟩) (rest.length + 1) c') hl' ((⟨⟨xk, xs, xt, xq, xc, xl⟩, xA, xn, xcc⟩, xla) :: rest) hg hgs gb #[.int .i64 mk, .int .i64 1, .int .i64 0, .int .i64 mq, .int .u32 mc, .slice A n c] W) ∧ W.cell? ⟨b1, o1 + 3, none⟩ = some (.int .i64 xq)) (fun W W' h hb => ⟨h.1.below hb, cell_lasts _ _ _ _ h.2 hb⟩) (by kernel_rfl) (by kernel_rfl) ⟨HI.out.below (Below.refl _ _).drew, cell_lasts _ _ _ _ HX3.out (Below.refl _ _).drew⟩ ?_
                clear HI HX3
                repeat (first
                  | (refine wpSeq_off (by rfl) ?_; try simp only [Act.put, List.setIfInBounds_toArray, List.set_cons_zero, List.set_cons_succ])
                  | (refine wpSeq_val (v := .bool true) (by rfl) (fun W hS => ?_) ?_
                     · (clear hS; go_simp; done)
                     try simp only [Act.put, List.setIfInBounds_toArray, List.set_cons_zero, List.set_cons_succ])
                  | (refine wpSeq_val (v := .bool false) (by rfl) (fun W hS => ?_) ?_
                     · (clear hS; go_simp; done)
                     try simp only [Act.put, List.setIfInBounds_toArray, List.set_cons_zero, List.set_cons_succ])
                  | (refine wpSeq_val (v := ?_) (by rfl) (fun W hS => ?_) ?_
                     rotate_left
                     · ((have c2 := hS.1.t.h.box.cell 2 _ rfl; have h3 := hS.2; have z3 := hS.1.bx.cell 3 _ rfl; clear hS); go_simp; first | done | with_reducible rfl)
                     try simp only [Act.put, List.setIfInBounds_toArray, List.set_cons_zero, List.set_cons_succ]))
                refine wpSeq_nil (fun W hS => ?_)
                have hS := hS.1
                have HSR := Lib.hid hS
                clear hS
                have z0 := HSR.out.bx.cell 0 _ rfl
                have z1 := HSR.out.bx.cell 1 _ rfl
                have z2 := HSR.out.bx.cell 2 _ rfl
                have z3 := HSR.out.bx.cell 3 _ rfl
                have z4 := HSR.out.bx.cell 4 _ rfl
                have z5 := HSR.out.bx.cell 5 _ rfl
                go_wp2_with fail
                refine (HIN.out _ HSR.out mk 1 0 mq mc).mono ?_
                intro e wd hpd
                obtain ⟨rfl, hT, hB9⟩ := HSR.out.in_ HLR.out hB hpd HC.out
                have HT := Lib.hid hT
                have HBW := Lib.hid hB9
                clear hpd hT hB9
                rw [HICV.out]
                go_wp2_with fail
                go_ret
                exact ⟨rfl, HT.out, HBW.out⟩
      · have hkq : (mk == 3) = false := by simpa using hk3
        have HK3 := Lib.hid hk3
        have HICV := Lib.hid (HIC.out.trans ((if_neg (by simp)).trans (if_neg (fun h => hk3 h.1))))
        clear hk3
        have c5 := HS1.out.t.h.box.cell 5 _ rfl
        have cf := fun i => HS1.out.t.h.box.free i
        go_upto_region 12 with (fail)
        have hS4 := HS1.out.put (k := 5) (u := .bool true) (nx2 := nx) (wt2 := wt) (ow2 := true) rfl
        generalize World.setCell _ ⟨H, 5, none⟩ (.bool true) = w4 at hS4 ⊢
        clear HS1 z0 z1 z2 z3 z4 z5 c5 cf
        have HS1 := Lib.hid hS4
        clear hS4
        by_cases hsw : mq = wt
        · have hwq : (mq == wt) = true := by simpa using hsw
          refine wp_region_seq (fun W => HSt w base E H nx wt ow vw ws vg gs nx wt true hw hl hs hg hgs gb #[.int .i64 mk, .int .i64 1, .int .i64 0, .int .i64 mq, .int .u32 mc, .slice A n c] W) (fun W W' h hb => h.below hb) (by kernel_rfl) (by kernel_rfl) (HS1.out.below (Below.refl _ _).drew) ?_
          clear HS1
          repeat (first
            | (refine wpSeq_off (by rfl) ?_; try simp only [Act.put, List.setIfInBounds_toArray, List.set_cons_zero, List.set_cons_succ])
            | (refine wpSeq_val (v := .bool true) (by rfl) (fun W hS => ?_) ?_
               · (clear hS; go_simp; done)
               try simp only [Act.put, List.setIfInBounds_toArray, List.set_cons_zero, List.set_cons_succ])
            | (refine wpSeq_val (v := .bool false) (by rfl) (fun W hS => ?_) ?_
               · (clear hS; go_simp; done)
               try simp only [Act.put, List.setIfInBounds_toArray, List.set_cons_zero, List.set_cons_succ])
            | (refine wpSeq_val (v := ?_) (by rfl) (fun W hS => ?_) ?_
               rotate_left
               · ((have c1 := hS.t.h.box.cell 1 _ rfl; have z3 := hS.bx.cell 3 _ rfl; clear hS); go_simp; first | done | with_reducible rfl)
               try simp only [Act.put, List.setIfInBounds_toArray, List.set_cons_zero, List.set_cons_succ]))
          refine wpSeq_nil (fun W hS => ?_)
          have HS3 := Lib.hid hS
          have HSW := Lib.hid hsw
          have hwn : IntKind.i64.wrap (wt + 1) = wt + 1 := by rw [IntKind.wrap_i64]; omega
          have c1 := hS.t.h.box.cell 1 _ rfl
          have cf := fun i => hS.t.h.box.free i
          obtain ⟨Ag, cg, hvg, _⟩ := own_rd hS.t.h.rg
          subst hvg
          clear hS hsw
          go_upto_region 14 with (fail)
          have hS6 := HS3.out.put (k := 1) (u := .int .i64 (wt + 1)) (nx2 := nx) (wt2 := wt + 1) (ow2 := true) rfl
          generalize World.setCell _ ⟨H, 1, none⟩ (.int .i64 (wt + 1)) = w6 at hS6 ⊢
          have HS6 := Lib.hid hS6
          have HGL := Lib.hid (show hgs.length ≤ 1073741824 from by
            have h1 := congrArg List.length HLR.out.g
            rw [List.length_map, List.length_map] at h1
            have := HLR.out.gl
            omega)
          clear hS6 c1 cf HS3
          refine wp_region_invK 10 (LapJ (fun i => ([some (.pointer (some ⟨H, 0, none⟩)), some (.pointer (some ⟨H, 0, none⟩)), some (.pointer (some ⟨H, 0, none⟩)), some (.pointer (some ⟨H, 4, none⟩)), some (.slice Ag hgs.length cg), some (.agg #[.int .i64 mk, .int .i64 1, .int .i64 0, .int .i64 mq, .int .u32 mc, .slice A n c]), none, none, some (.pointer (some ⟨H, 0, none⟩)), some (.pointer (some ⟨H, 4, none⟩))] : List (Option Value)).getD i none) [(6, 7)] 7 (fun W => Below w6.heap.size w6 W) (LitSp 6 #[.int .i64 mk, .int .i64 1, .int .i64 0, .int .i64 mq, .int .u32 mc, .slice A n c]) (fun v W => W.ownsRow base 43 6 v (hgs.length + 1) (hgs.flatMap encM ++ encM ⟨⟨mk, 1, 0, mq, mc, ml⟩, A, n, c⟩) ∧ Mod (fun k => (Value.slice Ag hgs.length cg).ownBlock = some k) w6 W ∧ NearV w6 (.slice Ag hgs.length cg) v)) (by kernel_rfl) (by kernel_rfl) (LapJ.start (Below.refl _ _).drew) ?_ ?_
          · intro i o hi ho s vs W hJ hs' hdep
            have hs := hs'
            have hE : Blk W H 31 #[.int .i64 nx, .int .i64 (wt + 1), hw, hl, .slice Ag hgs.length cg, .bool true] ∧ Blk W gb 43 #[.int .i64 mk, .int .i64 1, .int .i64 0, .int .i64 mq, .int .u32 mc, .slice A n c] := hJ.all (X := fun W => Blk W H 31 #[.int .i64 nx, .int .i64 (wt + 1), hw, hl, .slice Ag hgs.length cg, .bool true] ∧ Blk W gb 43 #[.int .i64 mk, .int .i64 1, .int .i64 0, .int .i64 mq, .int .u32 mc, .slice A n c]) (fun W h => ⟨HS6.out.t.h.box.below h HS6.out.t.h.box.lt, HS6.out.bx.below h HS6.out.bx.lt⟩) (fun v W ⟨_, h, _⟩ => ⟨h.blk HS6.out.t.h.box (fun hg => by
              obtain ⟨cs', hk'⟩ := own_blk HS6.out.t.h.rg hg
              exact absurd (blk_type hk' HS6.out.t.h.box) (by decide)), h.blk HS6.out.bx HS6.out.nb.2.2⟩)
            rcases i with _ | _ | _ | _ | _ | _ | _ | _ | _ | _ | i
            all_goals first | omega | skip
            all_goals (simp only [List.getElem?_cons_succ, List.getElem?_cons_zero, Option.some.injEq] at ho; subst ho)
            · refine StepJ.val (v := .pointer (some ⟨H, 0, none⟩)) rfl ?_ (hJ.same (by omega) (by simp) rfl)
              clear hJ hdep hE
              unfold lexA
              simp only [putAll, preI, Nat.reduceLT, Nat.reduceAdd, decide_false, Bool.false_eq_true, if_false]
              go_simp
            · refine StepJ.val (v := .pointer (some ⟨H, 0, none⟩)) rfl ?_ (hJ.same (by omega) (by simp) rfl)
              clear hJ hdep hE
              unfold lexA
              simp only [putAll, preI, Nat.reduceLT, Nat.reduceAdd, decide_true, decide_false, Bool.false_eq_true, if_true, if_false, Act.put, List.setIfInBounds_toArray, List.set_cons_zero, List.set_cons_succ]
              go_simp
            · have d1 : vs 1 = .pointer (some ⟨H, 0, none⟩) := hJ.dt 1 _ (hdep ⟨1, .data⟩ (by simp) rfl) rfl
              refine StepJ.val (v := .pointer (some ⟨H, 0, none⟩)) rfl ?_ (hJ.same (by omega) (by simp) rfl)
              clear hJ hdep hE
              unfold lexA
              simp only [putAll, preI, Nat.reduceLT, Nat.reduceAdd, decide_true, decide_false, Bool.false_eq_true, if_true, if_false, Act.put, List.setIfInBounds_toArray, List.set_cons_zero, List.set_cons_succ]
              go_simp
            · have d2 : vs 2 = .pointer (some ⟨H, 0, none⟩) := hJ.dt 2 _ (hdep ⟨2, .data⟩ (by simp) rfl) rfl
              refine StepJ.val (v := .pointer (some ⟨H, 4, none⟩)) rfl ?_ (hJ.same (by omega) (by simp) rfl)
              clear hJ hdep hE
              unfold lexA
              simp only [putAll, preI, Nat.reduceLT, Nat.reduceAdd, decide_true, decide_false, Bool.false_eq_true, if_true, if_false, Act.put, List.setIfInBounds_toArray, List.set_cons_zero, List.set_cons_succ]
              go_simp
            · have d3 : vs 3 = .pointer (some ⟨H, 4, none⟩) := hJ.dt 3 _ (hdep ⟨3, .data⟩ (by simp) rfl) rfl
              refine StepJ.val (v := .slice Ag hgs.length cg) rfl ?_ (hJ.same (by omega) (by simp) rfl)
              have c4 := hE.1.cell 4 _ rfl
              have z0 := hE.2.cell 0 _ rfl
              have z1 := hE.2.cell 1 _ rfl
              have z2 := hE.2.cell 2 _ rfl
              have z3 := hE.2.cell 3 _ rfl
              have z4 := hE.2.cell 4 _ rfl
              have z5 := hE.2.cell 5 _ rfl
              clear hJ hdep hE
              unfold lexA
              simp only [putAll, preI, Nat.reduceLT, Nat.reduceAdd, decide_true, decide_false, Bool.false_eq_true, if_true, if_false, Act.put, List.setIfInBounds_toArray, List.set_cons_zero, List.set_cons_succ]
              go_simp
            · refine StepJ.val (v := .agg #[.int .i64 mk, .int .i64 1, .int .i64 0, .int .i64 mq, .int .u32 mc, .slice A n c]) rfl ?_ (hJ.same (by omega) (by simp) rfl)
              have c4 := hE.1.cell 4 _ rfl
              have z0 := hE.2.cell 0 _ rfl
              have z1 := hE.2.cell 1 _ rfl
              have z2 := hE.2.cell 2 _ rfl
              have z3 := hE.2.cell 3 _ rfl
              have z4 := hE.2.cell 4 _ rfl
              have z5 := hE.2.cell 5 _ rfl
              clear hJ hdep hE
              unfold lexA
              simp only [putAll, preI, Nat.reduceLT, Nat.reduceAdd, decide_true, decide_false, Bool.false_eq_true, if_true, if_false, Act.put, List.setIfInBounds_toArray, List.set_cons_zero, List.set_cons_succ]
              go_simp
            · have d5 : vs 5 = .agg #[.int .i64 mk, .int .i64 1, .int .i64 0, .int .i64 mq, .int .u32 mc, .slice A n c] := hJ.dt 5 _ (hdep ⟨5, .data⟩ (by simp) rfl) rfl
              have h8 : s 7 = false := by
                cases e : s 7 with
                | false => rfl
                | true => exact absurd (hJ.w2 (6, 7) (by simp) e) (by simp [hs])
              refine StepJ.val (v := .slice (some ⟨W.heap.size, 0, none⟩) 1 1) (W' := W.alloc (.cells #[.int .i64 mk, .int .i64 1, .int .i64 0, .int .i64 mq, .int .u32 mc, .slice A n c] 43)) rfl ?_ (hJ.some_ h8 (hl0 := fun W W' h hb => h.trans (hb.mono h.size)) (hl := LitSp.lasts) (by omega) (by simp) rfl ((Below.refl _ _).alloc (Nat.le_refl _) _) (fun _ => ⟨W.heap.size, rfl, Blk.new _ _ _⟩))
              clear hJ hdep hE
              refine exec_lit (.tmp 93) rfl mk 1 0 mq mc A n c ?_
              unfold lexA
              simp only [putAll, preI, Nat.reduceLT, Nat.reduceAdd, decide_true, decide_false, Bool.false_eq_true, if_true, if_false, Act.put, List.setIfInBounds_toArray, List.set_cons_zero, List.set_cons_succ]
              rw [d5]
              rfl
            · have d4 : vs 4 = .slice Ag hgs.length cg := hJ.dt 4 _ (hdep ⟨4, .data⟩ (by simp) rfl) rfl
              obtain ⟨hbW, hsp⟩ := hJ.w0 hs
              obtain ⟨gL, d6, hkL⟩ := hsp 6 (hdep ⟨6, .data⟩ (by simp) rfl) rfl rfl
              refine StepJ.app rfl (exec_append (.tmp 92) (.tmp 94) 23 rfl base 43 j0 (.agg #[.int .i64 0, .int .i64 0, .int .i64 0, .int .i64 0, .int .u32 0, .slice none 0 0]) 6 64 Try.underlying23 hj0 hy0 hy1 hy2 rfl (by omega) (.slice Ag hgs.length cg) hgs.length (hgs.flatMap encM) ?_ (own_below HS6.out.t.h.rg hbW (Nat.le_refl _)) gL #[.int .i64 mk, .int .i64 1, .int .i64 0, .int .i64 mq, .int .u32 mc, .slice A n c] ?_ hkL rfl (by simp [Value.oneCell']) (by have := HGL.out; unfold maxLen; omega) (by have := HGL.out; omega) (Nat.le_trans HS6.out.lo hbW.size)) (fun vn Wn ⟨hon, hgn, hnn⟩ => hJ.app (by simp; exact hdep ⟨6, .data⟩ (by simp) rfl) rfl ⟨hon, (Mod.of_below (F := fun k => (Value.slice Ag hgs.length cg).ownBlock = some k) hbW).trans (Mod.of_grown hgn) (fun _ _ h => h), fun g' hg => ?_⟩)
              · clear hJ hdep hE hsp hkL hbW
                unfold lexA
                simp only [putAll, preI, Nat.reduceLT, Nat.reduceAdd, decide_true, decide_false, Bool.false_eq_true, if_true, if_false, Act.put, List.setIfInBounds_toArray, List.set_cons_zero, List.set_cons_succ]
                rw [d4]
                rfl
              · clear hJ hdep hE hsp hkL hbW
                unfold lexA
                simp only [putAll, preI, Nat.reduceLT, Nat.reduceAdd, decide_true, decide_false, Bool.false_eq_true, if_true, if_false, Act.put, List.setIfInBounds_toArray, List.set_cons_zero, List.set_cons_succ]
                rw [d6]
                rfl
              · rcases hnn with hnn | hnn
                · rw [hnn] at hg; exact .inl hg
                · rw [hnn] at hg
                  have := Option.some.inj hg
                  have := hbW.size
                  exact .inr (by omega)
            · have d0 : vs 0 = .pointer (some ⟨H, 0, none⟩) := hJ.dt 0 _ (hdep ⟨0, .data⟩ (by simp) rfl) rfl
              refine StepJ.val (v := .pointer (some ⟨H, 0, none⟩)) rfl ?_ (hJ.same (by omega) (by simp) rfl)
              clear hJ hdep hE
              unfold lexA
              simp only [putAll, preI, Nat.reduceLT, Nat.reduceAdd, decide_true, decide_false, Bool.false_eq_true, if_true, if_false, Act.put, List.setIfInBounds_toArray, List.set_cons_zero, List.set_cons_succ]
              go_simp
            · have d8 : vs 8 = .pointer (some ⟨H, 0, none⟩) := hJ.dt 8 _ (hdep ⟨8, .data⟩ (by simp) rfl) rfl
              refine StepJ.val (v := .pointer (some ⟨H, 4, none⟩)) rfl ?_ (hJ.same (by omega) (by simp) rfl)
              clear hJ hdep hE
              unfold lexA
              simp only [putAll, preI, Nat.reduceLT, Nat.reduceAdd, decide_true, decide_false, Bool.false_eq_true, if_true, if_false, Act.put, List.setIfInBounds_toArray, List.set_cons_zero, List.set_cons_succ]
              go_simp
          · intro s vs W hall hJ
            obtain ⟨hon, hmn, hnn⟩ := hJ.w1 (hall 7 (by omega))
            obtain ⟨A8, c8, d7, _⟩ := own_rd hon
            rw [d7] at hon hnn
            have hE8 := hmn.blk HS6.out.t.h.box (fun hg => by
              obtain ⟨cs', hk'⟩ := own_blk HS6.out.t.h.rg hg
              exact absurd (blk_type hk' HS6.out.t.h.box) (by decide))
            have y0 := hE8.cell 4 _ rfl
            have y1 := hE8.free 4
            have d9 : vs 9 = .pointer (some ⟨H, 4, none⟩) := hJ.dt 9 _ (hall 9 (by omega)) rfl
            obtain ⟨hfin, hmf⟩ := HS6.out.t.h.got (x := ⟨⟨mk, 1, 0, mq, mc, ml⟩, A, n, c⟩) hon hmn hnn ((show MsgAt w base ⟨mk, 1, 0, mq, mc, ml⟩ A n c from HM.out).below HS6.out.bel)
            have hS9 := HS6.out.half hfin hmf (nearV_refl _ _) hnn
            have HC := Lib.hid (show HCond ⟨mk, 1, 0, mq, mc, ml⟩ nx wt ow hs hgs (wt + 1) true hs (hgs ++ [⟨⟨mk, 1, 0, mq, mc, ml⟩, A, n, c⟩]) from
              ⟨fun h => absurd HICV.out h, fun _ h => absurd h HK3.out, fun _ _ h => absurd HSW.out h, fun _ _ _ => ⟨rfl, rfl, rfl, by rw [List.map_append]; rfl⟩⟩)
            have HS9 := Lib.hid hS9
            clear hJ hall hon hnn hmn hE8 hfin hmf hS9
            unfold lexA
            simp only [putAll, preI, Nat.reduceLT, Nat.reduceAdd, decide_true, decide_false, Bool.false_eq_true, if_true, if_false, Act.put, List.setIfInBounds_toArray, List.set_cons_zero, List.set_cons_succ, List.drop_succ_cons, List.drop_zero]
            rw [d7, d9]
            go_upto_region 15 with (fail)
            clear y0 y1 d7 d9
            generalize W.setCell ⟨H, 4, none⟩ (.slice A8 (hgs.length + 1) c8) = WF at HS9 ⊢
            have HS1 := HS9
            clear HS9 HS6
            have z0 := HS1.out.bx.cell 0 _ rfl
            have z1 := HS1.out.bx.cell 1 _ rfl
            have z2 := HS1.out.bx.cell 2 _ rfl
            have z3 := HS1.out.bx.cell 3 _ rfl
            have z4 := HS1.out.bx.cell 4 _ rfl
            have z5 := HS1.out.bx.cell 5 _ rfl
            go_upto_region 16 with (fail)
            have hkY := Blk.new WF 43 #[.int .i64 mk, .int .i64 1, .int .i64 0, .int .i64 mq, .int .u32 mc, .slice A n c]
            have hbY : Below (WF).heap.size (WF) ((WF).alloc (.cells #[.int .i64 mk, .int .i64 1, .int .i64 0, .int .i64 mq, .int .u32 mc, .slice A n c] 43)) := (Below.refl _ _).alloc (Nat.le_refl _) _
            obtain ⟨gY, hgY⟩ : ∃ gY, gY = (WF).heap.size := ⟨_, rfl⟩
            have hge : (WF).heap.size ≤ gY := by omega
            have HSZ := Lib.hid (HS1.out.below ((hbY.setCell (p := ⟨gY, 1, none⟩) hge (.int .i64 2)).setCell (p := ⟨gY, 2, none⟩) hge (.int .i64 0)))
            clear hge
            generalize World.alloc _ (.cells #[.int .i64 mk, .int .i64 1, .int .i64 0, .int .i64 mq, .int .u32 mc, .slice A n c] 43) = wY at hkY HSZ ⊢
            rw [← hgY] at hkY ⊢
            have hkZ : Blk ((wY.setCell ⟨gY, 1, none⟩ (.int .i64 2)).setCell ⟨gY, 2, none⟩ (.int .i64 0)) gY 43 #[.int .i64 mk, .int .i64 2, .int .i64 0, .int .i64 mq, .int .u32 mc, .slice A n c] := by
              have := (hkY.set 1 (.int .i64 2)).set 2 (.int .i64 0)
              simpa using this
            have HKZ := Lib.hid hkZ
            have y1 := hkY.cell 1 _ rfl
            have y2 := hkY.cell 2 _ rfl
            have yf := fun i => hkY.free i
            clear hkY hkZ hbY hgY z0 z1 z2 z3 z4 z5 HS1
            go_upto_region 17 with (fail)
            clear y1 y2 yf
            generalize (wY.setCell ⟨gY, 1, none⟩ (.int .i64 2)).setCell ⟨gY, 2, none⟩ (.int .i64 0) = wZ at HSZ HKZ ⊢
            have x0 := HKZ.out.cell 0 _ rfl
            have x1 := HKZ.out.cell 1 _ rfl
            have x2 := HKZ.out.cell 2 _ rfl
            have x3 := HKZ.out.cell 3 _ rfl
            have x4 := HKZ.out.cell 4 _ rfl
            have x5 := HKZ.out.cell 5 _ rfl
            go_cut [115] (fun q wx => q = .bool false ∧ HSt w base E H nx wt ow vw ws vg gs nx (wt + 1) true hw hl hs (.slice A8 (hgs.length + 1) c8) (hgs ++ [⟨⟨mk, 1, 0, mq, mc, ml⟩, A, n, c⟩]) gb #[.int .i64 mk, .int .i64 1, .int .i64 0, .int .i64 mq, .int .u32 mc, .slice A n c] wx)
            case first =>
              go_wp2_with fail
              refine (HMY.out _).mono ?_
              rintro e wa ⟨rfl, hba⟩
              have HSA := Lib.hid (HSZ.out.below hba)
              have HKA := Lib.hid (HKZ.out.below hba HKZ.out.lt)
              clear hba x0 x1 x2 x3 x4 x5
              by_cases hfy : FY = 0
              · have hfyq : ((FY : Int) == 0) = true := by simp; omega
                have x0 := HKA.out.cell 0 _ rfl
                have x1 := HKA.out.cell 1 _ rfl
                have x2 := HKA.out.cell 2 _ rfl
                have x3 := HKA.out.cell 3 _ rfl
                have x4 := HKA.out.cell 4 _ rfl
                have x5 := HKA.out.cell 5 _ rfl
                go_wp2_with fail
                refine (HCF.out _ HSA.out.bel HSA.out.lo).mono ?_
                rintro e wb ⟨rfl, hbb⟩
                have HSB := Lib.hid (HSA.out.below hbb)
                have HKB := Lib.hid (HKA.out.below hbb HKA.out.lt)
                clear hbb x0 x1 x2 x3 x4 x5
                by_cases hf1 : F1 = 0
                · have hf1q : ((F1 : Int) == 0) = true := by simp; omega
                  have HIY := Lib.hid (HICY.out hfy hf1)
                  have x0 := HKB.out.cell 0 _ rfl
                  have x1 := HKB.out.cell 1 _ rfl
                  have x2 := HKB.out.cell 2 _ rfl
                  have x3 := HKB.out.cell 3 _ rfl
                  have x4 := HKB.out.cell 4 _ rfl
                  have x5 := HKB.out.cell 5 _ rfl
                  clear hf1 hfy
                  go_wp2_with fail
                  refine (HIN.out _ HSB.out mk 2 0 mq mc).mono ?_
                  rintro e wd ⟨rfl, hpd⟩
                  rw [HIY.out] at hpd ⊢
                  have HSD : Hid (HSt w base E H nx wt ow vw ws vg gs nx (wt + 1) true hw hl hs (.slice A8 (hgs.length + 1) c8) (hgs ++ [⟨⟨mk, 1, 0, mq, mc, ml⟩, A, n, c⟩]) gb #[.int .i64 mk, .int .i64 1, .int .i64 0, .int .i64 mq, .int .u32 mc, .slice A n c] wd) := by
                    rcases hpd with ⟨_, h1, h2⟩ | ⟨h0, _⟩ | ⟨h0, _⟩ | ⟨h0, _⟩
                    · exact HSB.out.end_ h1 h2
                    all_goals exact absurd h0 (by decide)
                  clear hpd
                  go_wp2_with fail
                  go_meet
                  exact ⟨rfl, HSD.out⟩
                · have hf1q : ((F1 : Int) == 0) = false := by simp; omega
                  go_wp2_with fail
                  go_meet
                  exact ⟨rfl, HSB.out⟩
              · have hfyq : ((FY : Int) == 0) = false := by simp; omega
                go_wp2_with fail
                go_meet
                exact ⟨rfl, HSA.out⟩
            case rest =>
              obtain ⟨rfl, hSR⟩ := hcut
              have HSR := Lib.hid hSR
              have z0 := hSR.bx.cell 0 _ rfl
              have z1 := hSR.bx.cell 1 _ rfl
              have z2 := hSR.bx.cell 2 _ rfl
              have z3 := hSR.bx.cell 3 _ rfl
              have z4 := hSR.bx.cell 4 _ rfl
              have z5 := hSR.bx.cell 5 _ rfl
              clear hSR x0 x1 x2 x3 x4 x5 HSZ HKZ
              go_wp2_with fail
              refine (HIN.out _ HSR.out mk 1 0 mq mc).mono ?_
              intro e wd hpd
              obtain ⟨rfl, hT, hB⟩ := HSR.out.in_ HLR.out hB hpd HC.out
              have HT := Lib.hid hT
              have HBW := Lib.hid hB
              clear hpd hT hB
              rw [HICV.out]
              go_wp2_with fail
              go_ret
              exact ⟨rfl, HT.out, HBW.out⟩
        · have hwq : (mq == wt) = false := by simpa using hsw
          have HC := Lib.hid (show HCond ⟨mk, 1, 0, mq, mc, ml⟩ nx wt ow hs hgs wt true hs hgs from
            ⟨fun h => absurd HICV.out h, fun _ h => absurd h HK3.out, fun _ _ _ => ⟨rfl, rfl, rfl, rfl⟩, fun _ _ h => absurd h hsw⟩)
          clear hsw
          refine wp_region_seq (fun W => HSt w base E H nx wt ow vw ws vg gs nx wt true hw hl hs hg hgs gb #[.int .i64 mk, .int .i64 1, .int .i64 0, .int .i64 mq, .int .u32 mc, .slice A n c] W) (fun W W' h hb => h.below hb) (by kernel_rfl) (by kernel_rfl) (HS1.out.below (Below.refl _ _).drew) ?_
          clear HS1
          repeat (first
            | (refine wpSeq_off (by rfl) ?_; try simp only [Act.put, List.setIfInBounds_toArray, List.set_cons_zero, List.set_cons_succ])
            | (refine wpSeq_val (v := .bool true) (by rfl) (fun W hS => ?_) ?_
               · (clear hS; go_simp; done)
               try simp only [Act.put, List.setIfInBounds_toArray, List.set_cons_zero, List.set_cons_succ])
            | (refine wpSeq_val (v := .bool false) (by rfl) (fun W hS => ?_) ?_
               · (clear hS; go_simp; done)
               try simp only [Act.put, List.setIfInBounds_toArray, List.set_cons_zero, List.set_cons_succ])
            | (refine wpSeq_val (v := ?_) (by rfl) (fun W hS => ?_) ?_
               rotate_left
               · ((have c1 := hS.t.h.box.cell 1 _ rfl; have z3 := hS.bx.cell 3 _ rfl; clear hS); go_simp; first | done | with_reducible rfl)
               try simp only [Act.put, List.setIfInBounds_toArray, List.set_cons_zero, List.set_cons_succ]))
          refine wpSeq_nil (fun W hS => ?_)
          have HS1 := Lib.hid hS
          clear hS
          have z0 := HS1.out.bx.cell 0 _ rfl
          have z1 := HS1.out.bx.cell 1 _ rfl
          have z2 := HS1.out.bx.cell 2 _ rfl
          have z3 := HS1.out.bx.cell 3 _ rfl
          have z4 := HS1.out.bx.cell 4 _ rfl
          have z5 := HS1.out.bx.cell 5 _ rfl
          go_upto_region 16 with (fail)
          have hkY := Blk.new W 43 #[.int .i64 mk, .int .i64 1, .int .i64 0, .int .i64 mq, .int .u32 mc, .slice A n c]
          have hbY : Below (W).heap.size (W) ((W).alloc (.cells #[.int .i64 mk, .int .i64 1, .int .i64 0, .int .i64 mq, .int .u32 mc, .slice A n c] 43)) := (Below.refl _ _).alloc (Nat.le_refl _) _
          obtain ⟨gY, hgY⟩ : ∃ gY, gY = (W).heap.size := ⟨_, rfl⟩
          have hge : (W).heap.size ≤ gY := by omega
          have HSZ := Lib.hid (HS1.out.below ((hbY.setCell (p := ⟨gY, 1, none⟩) hge (.int .i64 2)).setCell (p := ⟨gY, 2, none⟩) hge (.int .i64 0)))
          clear hge
          generalize World.alloc _ (.cells #[.int .i64 mk, .int .i64 1, .int .i64 0, .int .i64 mq, .int .u32 mc, .slice A n c] 43) = wY at hkY HSZ ⊢
          rw [← hgY] at hkY ⊢
          have hkZ : Blk ((wY.setCell ⟨gY, 1, none⟩ (.int .i64 2)).setCell ⟨gY, 2, none⟩ (.int .i64 0)) gY 43 #[.int .i64 mk, .int .i64 2, .int .i64 0, .int .i64 mq, .int .u32 mc, .slice A n c] := by
            have := (hkY.set 1 (.int .i64 2)).set 2 (.int .i64 0)
            simpa using this
          have HKZ := Lib.hid hkZ
          have y1 := hkY.cell 1 _ rfl
          have y2 := hkY.cell 2 _ rfl
          have yf := fun i => hkY.free i
          clear hkY hkZ hbY hgY z0 z1 z2 z3 z4 z5 HS1
          go_upto_region 17 with (fail)
          clear y1 y2 yf
          generalize (wY.setCell ⟨gY, 1, none⟩ (.int .i64 2)).setCell ⟨gY, 2, none⟩ (.int .i64 0) = wZ at HSZ HKZ ⊢
          have x0 := HKZ.out.cell 0 _ rfl
          have x1 := HKZ.out.cell 1 _ rfl
          have x2 := HKZ.out.cell 2 _ rfl
          have x3 := HKZ.out.cell 3 _ rfl
          have x4 := HKZ.out.cell 4 _ rfl
          have x5 := HKZ.out.cell 5 _ rfl
          go_cut [115] (fun q wx => q = .bool false ∧ HSt w base E H nx wt ow vw ws vg gs nx wt true hw hl hs hg hgs gb #[.int .i64 mk, .int .i64 1, .int .i64 0, .int .i64 mq, .int .u32 mc, .slice A n c] wx)
          case first =>
            go_wp2_with fail
            refine (HMY.out _).mono ?_
            rintro e wa ⟨rfl, hba⟩
            have HSA := Lib.hid (HSZ.out.below hba)
            have HKA := Lib.hid (HKZ.out.below hba HKZ.out.lt)
            clear hba x0 x1 x2 x3 x4 x5
            by_cases hfy : FY = 0
            · have hfyq : ((FY : Int) == 0) = true := by simp; omega
              have x0 := HKA.out.cell 0 _ rfl
              have x1 := HKA.out.cell 1 _ rfl
              have x2 := HKA.out.cell 2 _ rfl
              have x3 := HKA.out.cell 3 _ rfl
              have x4 := HKA.out.cell 4 _ rfl
              have x5 := HKA.out.cell 5 _ rfl
              go_wp2_with fail
              refine (HCF.out _ HSA.out.bel HSA.out.lo).mono ?_
              rintro e wb ⟨rfl, hbb⟩
              have HSB := Lib.hid (HSA.out.below hbb)
              have HKB := Lib.hid (HKA.out.below hbb HKA.out.lt)
              clear hbb x0 x1 x2 x3 x4 x5
              by_cases hf1 : F1 = 0
              · have hf1q : ((F1 : Int) == 0) = true := by simp; omega
                have HIY := Lib.hid (HICY.out hfy hf1)
                have x0 := HKB.out.cell 0 _ rfl
                have x1 := HKB.out.cell 1 _ rfl
                have x2 := HKB.out.cell 2 _ rfl
                have x3 := HKB.out.cell 3 _ rfl
                have x4 := HKB.out.cell 4 _ rfl
                have x5 := HKB.out.cell 5 _ rfl
                clear hf1 hfy
                go_wp2_with fail
                refine (HIN.out _ HSB.out mk 2 0 mq mc).mono ?_
                rintro e wd ⟨rfl, hpd⟩
                rw [HIY.out] at hpd ⊢
                have HSD : Hid (HSt w base E H nx wt ow vw ws vg gs nx wt true hw hl hs hg hgs gb #[.int .i64 mk, .int .i64 1, .int .i64 0, .int .i64 mq, .int .u32 mc, .slice A n c] wd) := by
                  rcases hpd with ⟨_, h1, h2⟩ | ⟨h0, _⟩ | ⟨h0, _⟩ | ⟨h0, _⟩
                  · exact HSB.out.end_ h1 h2
                  all_goals exact absurd h0 (by decide)
                clear hpd
                go_wp2_with fail
                go_meet
                exact ⟨rfl, HSD.out⟩
              · have hf1q : ((F1 : Int) == 0) = false := by simp; omega
                go_wp2_with fail
                go_meet
                exact ⟨rfl, HSB.out⟩
            · have hfyq : ((FY : Int) == 0) = false := by simp; omega
              go_wp2_with fail
              go_meet
              exact ⟨rfl, HSA.out⟩
          case rest =>
            obtain ⟨rfl, hSR⟩ := hcut
            have HSR := Lib.hid hSR
            have z0 := hSR.bx.cell 0 _ rfl
            have z1 := hSR.bx.cell 1 _ rfl
            have z2 := hSR.bx.cell 2 _ rfl
            have z3 := hSR.bx.cell 3 _ rfl
            have z4 := hSR.bx.cell 4 _ rfl
            have z5 := hSR.bx.cell 5 _ rfl
            clear hSR x0 x1 x2 x3 x4 x5 HSZ HKZ
            go_wp2_with fail
            refine (HIN.out _ HSR.out mk 1 0 mq mc).mono ?_
            intro e wd hpd
            obtain ⟨rfl, hT, hB⟩ := HSR.out.in_ HLR.out hB hpd HC.out
            have HT := Lib.hid hT
            have HBW := Lib.hid hB
            clear hpd hT hB
            rw [HICV.out]
            go_wp2_with fail
            go_ret
            exact ⟨rfl, HT.out, HBW.out⟩
    · have hFq : ((F : Int) == 0) = false := by simp; omega
      have HICV := Lib.hid (HIC.out.trans (if_pos hF0))
      have HC := Lib.hid (show HCond ⟨mk, 1, 0, mq, mc, ml⟩ nx wt ow hs hgs wt ow hs hgs from
        ⟨fun _ => ⟨rfl, rfl, rfl, rfl⟩, fun h => absurd (HICV.out.symm.trans h) hF0, fun h => absurd (HICV.out.symm.trans h) hF0, fun h => absurd (HICV.out.symm.trans h) hF0⟩)
      go_upto_region 15 with (fail)
      go_upto_region 16 with (fail)
      have hkY := Blk.new w3 43 #[.int .i64 mk, .int .i64 1, .int .i64 0, .int .i64 mq, .int .u32 mc, .slice A n c]
      have hbY : Below (w3).heap.size (w3) ((w3).alloc (.cells #[.int .i64 mk, .int .i64 1, .int .i64 0, .int .i64 mq, .int .u32 mc, .slice A n c] 43)) := (Below.refl _ _).alloc (Nat.le_refl _) _
      obtain ⟨gY, hgY⟩ : ∃ gY, gY = (w3).heap.size := ⟨_, rfl⟩
      have hge : (w3).heap.size ≤ gY := by omega
      have HSZ := Lib.hid (HS1.out.below ((hbY.setCell (p := ⟨gY, 1, none⟩) hge (.int .i64 2)).setCell (p := ⟨gY, 2, none⟩) hge (.int .i64 0)))
      clear hge
      generalize World.alloc _ (.cells #[.int .i64 mk, .int .i64 1, .int .i64 0, .int .i64 mq, .int .u32 mc, .slice A n c] 43) = wY at hkY HSZ ⊢
      rw [← hgY] at hkY ⊢
      have hkZ : Blk ((wY.setCell ⟨gY, 1, none⟩ (.int .i64 2)).setCell ⟨gY, 2, none⟩ (.int .i64 0)) gY 43 #[.int .i64 mk, .int .i64 2, .int .i64 0, .int .i64 mq, .int .u32 mc, .slice A n c] := by
        have := (hkY.set 1 (.int .i64 2)).set 2 (.int .i64 0)
        simpa using this
      have HKZ := Lib.hid hkZ
      have y1 := hkY.cell 1 _ rfl
      have y2 := hkY.cell 2 _ rfl
      have yf := fun i => hkY.free i
      clear hkY hkZ hbY hgY z0 z1 z2 z3 z4 z5 HS1
      go_upto_region 17 with (fail)
      clear y1 y2 yf
      generalize (wY.setCell ⟨gY, 1, none⟩ (.int .i64 2)).setCell ⟨gY, 2, none⟩ (.int .i64 0) = wZ at HSZ HKZ ⊢
      have x0 := HKZ.out.cell 0 _ rfl
      have x1 := HKZ.out.cell 1 _ rfl
      have x2 := HKZ.out.cell 2 _ rfl
      have x3 := HKZ.out.cell 3 _ rfl
      have x4 := HKZ.out.cell 4 _ rfl
      have x5 := HKZ.out.cell 5 _ rfl
      go_cut [115] (fun q wx => q = .bool false ∧ HSt w base E H nx wt ow vw ws vg gs nx wt ow hw hl hs hg hgs gb #[.int .i64 mk, .int .i64 1, .int .i64 0, .int .i64 mq, .int .u32 mc, .slice A n c] wx)
      case first =>
        go_wp2_with fail
        refine (HMY.out _).mono ?_
        rintro e wa ⟨rfl, hba⟩
        have HSA := Lib.hid (HSZ.out.below hba)
        have HKA := Lib.hid (HKZ.out.below hba HKZ.out.lt)
        clear hba x0 x1 x2 x3 x4 x5
        by_cases hfy : FY = 0
        · have hfyq : ((FY : Int) == 0) = true := by simp; omega
          have x0 := HKA.out.cell 0 _ rfl
          have x1 := HKA.out.cell 1 _ rfl
          have x2 := HKA.out.cell 2 _ rfl
          have x3 := HKA.out.cell 3 _ rfl
          have x4 := HKA.out.cell 4 _ rfl
          have x5 := HKA.out.cell 5 _ rfl
          go_wp2_with fail
          refine (HCF.out _ HSA.out.bel HSA.out.lo).mono ?_
          rintro e wb ⟨rfl, hbb⟩
          have HSB := Lib.hid (HSA.out.below hbb)
          have HKB := Lib.hid (HKA.out.below hbb HKA.out.lt)
          clear hbb x0 x1 x2 x3 x4 x5
          by_cases hf1 : F1 = 0
          · have hf1q : ((F1 : Int) == 0) = true := by simp; omega
            have HIY := Lib.hid (HICY.out hfy hf1)
            have x0 := HKB.out.cell 0 _ rfl
            have x1 := HKB.out.cell 1 _ rfl
            have x2 := HKB.out.cell 2 _ rfl
            have x3 := HKB.out.cell 3 _ rfl
            have x4 := HKB.out.cell 4 _ rfl
            have x5 := HKB.out.cell 5 _ rfl
            clear hf1 hfy
            go_wp2_with fail
            refine (HIN.out _ HSB.out mk 2 0 mq mc).mono ?_
            rintro e wd ⟨rfl, hpd⟩
            rw [HIY.out] at hpd ⊢
            have HSD : Hid (HSt w base E H nx wt ow vw ws vg gs nx wt ow hw hl hs hg hgs gb #[.int .i64 mk, .int .i64 1, .int .i64 0, .int .i64 mq, .int .u32 mc, .slice A n c] wd) := by
              rcases hpd with ⟨_, h1, h2⟩ | ⟨h0, _⟩ | ⟨h0, _⟩ | ⟨h0, _⟩
              · exact HSB.out.end_ h1 h2
              all_goals exact absurd h0 (by decide)
            clear hpd
            go_wp2_with fail
            go_meet
            exact ⟨rfl, HSD.out⟩
          · have hf1q : ((F1 : Int) == 0) = false := by simp; omega
            go_wp2_with fail
            go_meet
            exact ⟨rfl, HSB.out⟩
        · have hfyq : ((FY : Int) == 0) = false := by simp; omega
          go_wp2_with fail
          go_meet
          exact ⟨rfl, HSA.out⟩
      case rest =>
        obtain ⟨rfl, hSR⟩ := hcut
        have HSR := Lib.hid hSR
        have z0 := hSR.bx.cell 0 _ rfl
        have z1 := hSR.bx.cell 1 _ rfl
        have z2 := hSR.bx.cell 2 _ rfl
        have z3 := hSR.bx.cell 3 _ rfl
        have z4 := hSR.bx.cell 4 _ rfl
        have z5 := hSR.bx.cell 5 _ rfl
        clear hSR x0 x1 x2 x3 x4 x5 HSZ HKZ
        go_wp2_with fail
        refine (HIN.out _ HSR.out mk 1 0 mq mc).mono ?_
        intro e wd hpd
        obtain ⟨rfl, hT, hB⟩ := HSR.out.in_ HLR.out hB hpd HC.out
        have HT := Lib.hid hT
        have HBW := Lib.hid hB
        clear hpd hT hB
        rw [HICV.out]
        go_wp2_with fail
        go_ret
        exact ⟨rfl, HT.out, HBW.out⟩
end Go.Proofs.Ytpnefacignalpaa
