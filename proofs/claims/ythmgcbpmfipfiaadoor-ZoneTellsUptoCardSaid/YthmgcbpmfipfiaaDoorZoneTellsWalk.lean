/- ZoneTells: the walk. Conditions: those typed. -/
import Derived.Test.YthmgcbpmfipfiaaDoorWhen
import Derived.Test.YthmgcbpmfipfiaaDoorZoneC
import Derived.Test.YthmgcbpmfipfiaaDoorGrow
import Derived.Test.YthmgcbpmfipfiaaDoorGate
import Derived.Test.YthmgcbpmfipfiaaDoorQArgs
import Derived.Test.YthmgcbpmfipfiaaDoorBetween
import Derived.Test.YthmgcbpmfipfiaaDoorEqQ
namespace Go.Proofs.YthmgcbpmfipfiaaDoor.zoneTells
open Go.RowKit Go.Gy
set_option linter.unusedVariables false
theorem wf_i64 {n : Int} (h : wfI .i64 n) : -9223372036854775808 ≤ n ∧ n ≤ 9223372036854775807 := by
  simpa [wfI, Lit.wf, IntKind.min, IntKind.max, IntKind.signed, IntKind.bits] using h
theorem maxQ_neg {x : Rat} (h : ¬ 0 < x) : maxQ x 0 = 0 := by unfold maxQ; split <;> grind
theorem far_zero {x : Rat} {T : Int} (h : ¬ (0 < T ∧ 0 < x)) : ((0 : Int) : Rat) = farV x T := by
  have h0 : ((0 : Int) : Rat) = 0 := rfl
  unfold farV
  rcases Int.lt_or_le 0 T with h1 | h1
  · rw [maxQ_neg (fun h2 => h ⟨h1, h2⟩), h0, Rat.zero_mul]
  · rw [show max T 0 = 0 by omega, h0, Rat.mul_zero]
theorem num_a : ((1 : Int) : Rat) - 3 = ((-2 : Int) : Rat) := by
  have h1 : ((1 : Int) : Rat) = 1 := rfl
  have h2 : ((-2 : Int) : Rat) = -2 := rfl
  grind
theorem num_b : ((2 : Int) : Rat) + 3 = ((5 : Int) : Rat) := by
  have h1 : ((2 : Int) : Rat) = 2 := rfl
  have h2 : ((5 : Int) : Rat) = 5 := rfl
  grind
theorem far13 : farV ((1 : Int) : Rat) 3 = 3 := by
  unfold farV
  rw [maxQ_of_nonneg (by decide)]
  have h : ((max 3 0 : Int) : Rat) = 3 := rfl
  grind
def zeroQ3 : Q3 := ⟨false, { data := #[] }, { data := #[] }⟩
/-- what zone.Gate gives -/
def GateIs (ga gb gc gd : Q3) (v : Rat) (k : Int) (e f g h : Q3) : Prop :=
  ((gc.q < ga.q ∨ gd.q < gb.q) ∧ k = 3 ∧ e = zeroQ3 ∧ f = zeroQ3 ∧ g = zeroQ3 ∧ h = zeroQ3) ∨
  (¬ (gc.q < ga.q ∨ gd.q < gb.q) ∧ k = 0 ∧ e.q = ga.q - v ∧ f.q = gb.q - v ∧ g.q = gc.q + v ∧ h.q = gd.q + v ∧ e.can ∧ f.can ∧ g.can ∧ h.can)
/-- the loop: of the ticks above k, up to most, z is the least at which the box is reached, or -1 -/
def ZtRel (w : World) (l : List (Nat × TypeId × Array Value)) (T : Int → Bool) (most : Int) (vz vk : Value) (wr : World) : Prop :=
  ∃ k z : Int, vz = .int .i64 z ∧ vk = .int .i64 k ∧ (k ≤ most ∧ (-1 ≤ k ∨ k = most)) ∧ ((z = -1 ∧ ∀ j, k < j → j ≤ most → T j = false) ∨ (k < z ∧ 0 ≤ z ∧ z ≤ most ∧ T z = true ∧ ∀ j, k < j → j < z → T j = false)) ∧ In w l wr
theorem when_uniq {T : Int → Bool} {most y k z : Int} (hy : WhenIs T most y) (hk : k = -1 ∨ (k < -1 ∧ most = k))
    (hz : (z = -1 ∧ ∀ j, k < j → j ≤ most → T j = false) ∨ (k < z ∧ 0 ≤ z ∧ z ≤ most ∧ T z = true ∧ ∀ j, k < j → j < z → T j = false))
    (hm : ∀ t t', t ≤ t' → T t = true → T t' = true) : y = z := by
  rcases hy with ⟨h1, rfl⟩ | ⟨h0, h1, h2, h3⟩
  · rcases hz with ⟨rfl, _⟩ | ⟨_, h0, h2, h3, _⟩
    · rfl
    · rcases h1 with h1 | h1
      · omega
      · rw [hm z most h2 h3] at h1
        cases h1
  · rcases hz with ⟨rfl, h4⟩ | ⟨h4, h5, h6, h7, h8⟩
    · rw [h4 y (by omega) h1] at h2
      cases h2
    · rcases Int.lt_trichotomy y z with h | h | h
      · rw [h8 y (by omega) h] at h2
        cases h2
      · exact h
      · rw [h3 z h5 h] at h7
        cases h7
theorem rboxes_tch {e f g h : Q3} {y : B4} {p q z v : Rat} (h1 : e.q = p - z) (h2 : f.q = q - z) (h3 : g.q = p + z) (h4 : h.q = q + z) (hz : z = v) : rboxB ⟨e, f, g, h⟩ y = tchB p q v y := by
  subst hz
  unfold rboxB tchB validB
  simp only
  rw [h1, h2, h3, h4, Bool.and_assoc]
set_option maxRecDepth 100000 in
set_option maxHeartbeats 8000000 in
theorem walk (vp vw : Value) (ticks : Int) (vb vg : Value) (w : World) {b0 b1 b2 b3 : Nat} (f0 : VecArg w vp b0) (f1 : QuotArg w vw b1) (wt : wfI .i64 ticks) (f2 : BoxArg w vb b2) (f3 : GateArg w vg b3) (hT : TabW w) (hk : b0 + b1 + b2 + b3 ≤ 1048576) :
    Calls Tryd.prog 10 #[vp, vw, .int .i64 ticks, vb, vg] w fun e w' => e = .returned (.bool true) ∧ Below w.heap.size w w' := by
  obtain ⟨p, q, rfl, hp, hq⟩ := f0
  obtain ⟨x, rfl, hx⟩ := f1
  obtain ⟨ba, bb, bc, bd, rfl, hba, hbb, hbc, hbd⟩ := f2
  obtain ⟨nm, ga, gb, gc, gd, rfl, hga, hgb, hgc, hgd⟩ := f3
  replace hp : p.le 1048576 := hp.more (by omega)
  replace hq : q.le 1048576 := hq.more (by omega)
  replace hx : x.le 1048576 := hx.more (by omega)
  replace hba : ba.le 1048576 := hba.more (by omega)
  replace hbb : bb.le 1048576 := hbb.more (by omega)
  replace hbc : bc.le 1048576 := hbc.more (by omega)
  replace hbd : bd.le 1048576 := hbd.more (by omega)
  replace hga : ga.le 1048576 := hga.more (by omega)
  replace hgb : gb.le 1048576 := hgb.more (by omega)
  replace hgc : gc.le 1048576 := hgc.more (by omega)
  replace hgd : gd.le 1048576 := hgd.more (by omega)
  have ht := wf_i64 wt
  have HT := Lib.hid hT
  obtain ⟨z1, q1, _, l1, O1⟩ := ofR w hT 1
  obtain ⟨z2, q2, _, l2, O2⟩ := ofR w hT 2
  obtain ⟨z5, q5, c5, _, O5⟩ := ofR w hT 5
  obtain ⟨zm, qm, cm, _, Om⟩ := ofR w hT (-2)
  obtain ⟨z0, q0, c0, l0, O0⟩ := ofR w hT 0
  obtain ⟨e, f, g, h, qe, _, _, qh, ⟨ce, _, _, ch⟩, _, RE⟩ := reachR w hT z1 z2 z1 (N := 8) (M := 8) (l1.more (by decide)) (l2.more (by decide)) (l1.more (by decide)) 3 (by decide)
  obtain rfl : e = zm := ce.eq cm (by rw [qe, qm, q1, far13]; exact num_a)
  obtain rfl : h = z5 := ch.eq c5 (by rw [qh, q5, q1, q2, far13]; exact num_b)
  have hn1 := fun (W : World) => neq_quot W e
  have hn2 := fun (W : World) => neq_quot W h
  have gq := guard_quot
  have gbx := guard_box
  obtain ⟨ls, hls⟩ : ∃ ls : List (Nat × TypeId × Array Value), ls = [(w.heap.size + 1 + 1 + 1, 77, #[.string nm, .bool ga.neg, .string ga.num, .string ga.den, .bool gb.neg, .string gb.num, .string gb.den, .bool gc.neg, .string gc.num, .string gc.den, .bool gd.neg, .string gd.num, .string gd.den]), (w.heap.size + 1 + 1, 64, #[.bool ba.neg, .string ba.num, .string ba.den, .bool bb.neg, .string bb.num, .string bb.den, .bool bc.neg, .string bc.num, .string bc.den, .bool bd.neg, .string bd.num, .string bd.den]), (w.heap.size + 1, 27, #[.bool x.neg, .string x.num, .string x.den]), (w.heap.size, 58, #[.bool p.neg, .string p.num, .string p.den, .bool q.neg, .string q.num, .string q.den])] := ⟨_, rfl⟩
  have Hls := Lib.hid hls
  have hI := ((((In.start w).alloc 58 #[.bool p.neg, .string p.num, .string p.den, .bool q.neg, .string q.num, .string q.den]).alloc 27 #[.bool x.neg, .string x.num, .string x.den]).alloc 64 #[.bool ba.neg, .string ba.num, .string ba.den, .bool bb.neg, .string bb.num, .string bb.den, .bool bc.neg, .string bc.num, .string bc.den, .bool bd.neg, .string bd.num, .string bd.den]).alloc 77 #[.string nm, .bool ga.neg, .string ga.num, .string ga.den, .bool gb.neg, .string gb.num, .string gb.den, .bool gc.neg, .string gc.num, .string gc.den, .bool gd.neg, .string gd.num, .string gd.den]
  rw [World.size_alloc, World.size_alloc, World.size_alloc] at hI
  rw [← hls] at hI
  clear hls wt hT hk qe qh q1 q2 q5 qm l1 l2 ce ch cm c5
  go_enter Tryd.func10, Tryd.ntmps10
  go_wp2_with fail
  generalize World.alloc _ _ = W1 at hI ⊢
  refine (O1.out _ hI.bel).mono ?_
  rintro r w2 ⟨rfl, hb⟩
  replace hI := hI.call hb
  clear hb
  go_wp2_with fail
  refine (O2.out _ hI.bel).mono ?_
  rintro e wn ⟨rfl, hb⟩
  replace hI := hI.call hb
  clear hb
  go_wp2_with fail
  refine (O1.out _ hI.bel).mono ?_
  rintro e wn ⟨rfl, hb⟩
  replace hI := hI.call hb
  clear hb
  go_wp2_with fail
  refine (RE.out _ hI.bel).mono ?_
  rintro e wn ⟨rfl, hb⟩
  replace hI := hI.call hb
  clear hb
  replace hI := hI.alloc 64 #[.bool e.neg, .string e.num, .string e.den, .bool f.neg, .string f.num, .string f.den, .bool g.neg, .string g.num, .string g.den, .bool h.neg, .string h.num, .string h.den]
  obtain ⟨gm, hgm⟩ : ∃ gm, gm = wn.heap.size := ⟨_, rfl⟩
  go_upto_region 2 with (fail)
  rw [← hgm] at hI ⊢
  generalize World.alloc _ _ = W3 at hI ⊢
  clear hgm
  refine wp_region_in hI (by kernel_rfl) (by kernel_rfl) ?_
  repeat (first
    | (refine wpSeq_off (by rfl) ?_; try simp only [Act.put, List.setIfInBounds_toArray, List.set_cons_zero, List.set_cons_succ])
    | (refine wpSeq_val (v := ?_) (by rfl) (fun W hS => ?_) ?_
       rotate_left
       · (have fx := hS.facts; simp only [factsOf, cellsOf, Nat.zero_add, Nat.reduceAdd] at fx; clear hS; go_simp; first | done | with_reducible rfl)
       try simp only [Act.put, List.setIfInBounds_toArray, List.set_cons_zero, List.set_cons_succ]))
  refine wpSeq_call (v := .agg #[.bool e.neg, .string e.num, .string e.den]) (by rfl) (fun W hS => ?_) (fun W hS => (Om.out W hS.bel)) ?_
  · (clear hS; go_simp; done)
  try simp only [Act.put, List.setIfInBounds_toArray, List.set_cons_zero, List.set_cons_succ]
  repeat (first
    | (refine wpSeq_off (by rfl) ?_; try simp only [Act.put, List.setIfInBounds_toArray, List.set_cons_zero, List.set_cons_succ])
    | (refine wpSeq_val (v := ?_) (by rfl) (fun W hS => ?_) ?_
       rotate_left
       · (have fx := hS.facts; simp only [factsOf, cellsOf, Nat.zero_add, Nat.reduceAdd] at fx; clear hS; go_simp; first | done | with_reducible rfl)
       try simp only [Act.put, List.setIfInBounds_toArray, List.set_cons_zero, List.set_cons_succ]))
  refine wpSeq_call (v := .agg #[.bool h.neg, .string h.num, .string h.den]) (by rfl) (fun W hS => ?_) (fun W hS => (O5.out W hS.bel)) ?_
  · (clear hS; go_simp; done)
  try simp only [Act.put, List.setIfInBounds_toArray, List.set_cons_zero, List.set_cons_succ]
  repeat (first
    | (refine wpSeq_off (by rfl) ?_; try simp only [Act.put, List.setIfInBounds_toArray, List.set_cons_zero, List.set_cons_succ])
    | (refine wpSeq_val (v := ?_) (by rfl) (fun W hS => ?_) ?_
       rotate_left
       · (have fx := hS.facts; simp only [factsOf, cellsOf, Nat.zero_add, Nat.reduceAdd] at fx; clear hS; go_simp; first | done | with_reducible rfl)
       try simp only [Act.put, List.setIfInBounds_toArray, List.set_cons_zero, List.set_cons_succ]))
  refine wpSeq_nil (fun W hS => ?_)
  replace hI := hS.tail
  clear hS hn1 hn2
  obtain ⟨T, hTd⟩ : ∃ T, T = ticks.tmod 3000 := ⟨_, rfl⟩
  have hTb : -3000 < T ∧ T < 3000 := by
    rw [hTd]
    rcases Int.le_total 0 ticks with h | h
    · rw [Int.tmod_eq_emod_of_nonneg h]; omega
    · have h1 := Int.tmod_eq_emod_of_nonneg (b := 3000) (show 0 ≤ -ticks by omega)
      rw [Int.neg_tmod] at h1
      omega
  have hwT : IntKind.i64.wrap T = T := by rw [IntKind.wrap_i64]; omega
  go_wp2_with fail
  rw [← hTd]
  clear hTd
  refine (O0.out _ hI.bel).mono ?_
  rintro r wn ⟨rfl, hb⟩
  replace hI := hI.call hb
  clear hb
  obtain ⟨z, qz, cz, lz, _⟩ := farR w HT.out x hx T (by omega)
  have qz : z.q = farV x.q T := qz
  replace hI := hI.alloc 27 #[.bool z0.neg, .string z0.num, .string z0.den]
  obtain ⟨gf, hgf⟩ : ∃ gf, gf = wn.heap.size := ⟨_, rfl⟩
  go_upto_region 6 with (fail)
  rw [← hgf] at hI ⊢
  generalize World.alloc _ _ = W4 at hI ⊢
  clear hgf
  obtain ⟨mv, hmv⟩ : ∃ mv : Bool, mv = decide (0 < T ∧ 0 < x.q) := ⟨_, rfl⟩
  have HMV := Lib.hid hmv
  clear hmv
  go_cut [46] (fun c wx => c = .bool mv ∧ In w ((gf, 27, #[.bool z0.neg, .string z0.num, .string z0.den]) :: ls) wx)
  case first =>
    as_aux_lemma =>
      obtain ⟨cs, _, ps, _, SG⟩ := signR w HT.out x hx
      rw [Hls.out] at hI
      have fx := hI.facts
      simp only [factsOf, cellsOf, Nat.zero_add, Nat.reduceAdd] at fx
      by_cases hT0 : T > 0
      · by_cases hcs : cs > 0
        · obtain rfl : mv = true := by rw [HMV.out]; exact decide_eq_true ⟨hT0, ps.mp hcs⟩
          clear ps
          go_wp2_with fail
          refine (SG.out _ hI.bel).mono ?_
          rintro r wn ⟨rfl, hb⟩
          replace hI := hI.call hb
          clear hb fx
          go_wp2_with fail
          go_meet
          exact ⟨rfl, by rw [Hls.out]; exact hI⟩
        · obtain rfl : mv = false := by rw [HMV.out]; exact decide_eq_false fun h => hcs (ps.mpr h.2)
          clear ps
          go_wp2_with fail
          refine (SG.out _ hI.bel).mono ?_
          rintro r wn ⟨rfl, hb⟩
          replace hI := hI.call hb
          clear hb fx
          go_wp2_with fail
          go_meet
          exact ⟨congrArg Value.bool (decide_eq_false (Int.not_lt.mpr hcs)), by rw [Hls.out]; exact hI⟩
      · obtain rfl : mv = false := by rw [HMV.out]; exact decide_eq_false fun h => hT0 h.1
        clear ps SG
        go_wp2_with fail
        go_meet
        exact ⟨rfl, by rw [Hls.out]; exact hI⟩
  case rest =>
    clear hI
    obtain ⟨rfl, hI⟩ := hcut
    go_upto_if 46 with (fail)
    go_cut [] (fun wx => In w ((gf, 27, #[.bool z.neg, .string z.num, .string z.den]) :: ls) wx)
    case first =>
      as_aux_lemma =>
        by_cases hpos : 0 < T ∧ 0 < x.q
        · obtain rfl : mv = true := by rw [HMV.out]; exact decide_eq_true hpos
          obtain ⟨zt, qt, _, lt, OT⟩ := ofR w HT.out T (by omega)
          obtain ⟨z', qz', cz', _, MU⟩ := mulR w HT.out x zt hx lt
          obtain rfl : z' = z := cz'.eq cz (by
            rw [qz', qz, qt]
            unfold farV
            rw [maxQ_of_nonneg (Rat.le_of_lt hpos.2), show max T 0 = T by omega])
          clear qz' qt lt hpos
          rw [Hls.out] at hI
          go_upto_region 7 with (fail)
          refine wp_region_in_tail 4 hI (by kernel_rfl) (by kernel_rfl) ?_
          simp only [List.take_succ_cons, List.take_zero, List.drop_succ_cons, List.drop_zero]
          repeat (first
            | (refine wpSeq_off (by rfl) ?_; try simp only [Act.put, List.setIfInBounds_toArray, List.set_cons_zero, List.set_cons_succ])
            | (refine wpSeq_val (v := ?_) (by rfl) (fun W hS => ?_) ?_
               rotate_left
               · (have fx := hS.facts; simp only [factsOf, cellsOf, Nat.zero_add, Nat.reduceAdd] at fx; clear hS; go_simp; first | done | with_reducible rfl)
               try simp only [Act.put, List.setIfInBounds_toArray, List.set_cons_zero, List.set_cons_succ]))
          refine wpSeq_call (v := .agg #[.bool zt.neg, .string zt.num, .string zt.den]) (by rfl) (fun W hS => ?_) (fun W hS => (OT.out W hS.bel)) ?_
          · (clear hS; go_simp; done)
          try simp only [Act.put, List.setIfInBounds_toArray, List.set_cons_zero, List.set_cons_succ]
          repeat (first
            | (refine wpSeq_off (by rfl) ?_; try simp only [Act.put, List.setIfInBounds_toArray, List.set_cons_zero, List.set_cons_succ])
            | (refine wpSeq_val (v := ?_) (by rfl) (fun W hS => ?_) ?_
               rotate_left
               · (have fx := hS.facts; simp only [factsOf, cellsOf, Nat.zero_add, Nat.reduceAdd] at fx; clear hS; go_simp; first | done | with_reducible rfl)
               try simp only [Act.put, List.setIfInBounds_toArray, List.set_cons_zero, List.set_cons_succ]))
          refine wpSeq_call (v := .agg #[.bool z'.neg, .string z'.num, .string z'.den]) (by rfl) (fun W hS => ?_) (fun W hS => (MU.out W hS.bel)) ?_
          · (clear hS; go_simp; done)
          try simp only [Act.put, List.setIfInBounds_toArray, List.set_cons_zero, List.set_cons_succ]
          repeat (first
            | (refine wpSeq_off (by rfl) ?_; try simp only [Act.put, List.setIfInBounds_toArray, List.set_cons_zero, List.set_cons_succ])
            | (refine wpSeq_val (v := ?_) (by rfl) (fun W hS => ?_) ?_
               rotate_left
               · (have fx := hS.facts; simp only [factsOf, cellsOf, Nat.zero_add, Nat.reduceAdd] at fx; clear hS; go_simp; first | done | with_reducible rfl)
               try simp only [Act.put, List.setIfInBounds_toArray, List.set_cons_zero, List.set_cons_succ]))
          refine wpSeq_nil (fun W hS => ?_)
          have hS1 : In w ([(gf, 27, #[.bool z0.neg, .string z0.num, .string z0.den])] ++ _) W := hS
          have HX := Lib.hid (hS1.all3 (a := []) (.bool z'.neg) (.string z'.num) (.string z'.den))
          have hT1 := hS1.take
          have hfx := hT1.facts
          simp only [factsOf, cellsOf, Nat.zero_add, Nat.reduceAdd] at hfx
          have hfz := fun i => hT1.free (k := 0) (i := i) rfl
          clear hS hS1 hT1 hI
          go_wp2_with fail
          go_meet
          rw [Hls.out]
          exact HX.out
        · obtain rfl : mv = false := by rw [HMV.out]; exact decide_eq_false hpos
          obtain rfl : z0 = z := c0.eq cz (by
            rw [q0, qz]
            exact far_zero hpos)
          go_wp2_with fail
          go_meet
          exact hI
    case rest =>
      clear hI
      replace hI := hcut
      clear hcut HMV
      obtain ⟨e1, f1, g1, h1, qe1, qf1, qg1, qh1, ⟨ce1, cf1, cg1, ch1⟩, _, RE1⟩ := reachR w HT.out p q x hp hq hx T (by omega)
      obtain ⟨e2, f2, g2, h2, qe2, qf2, qg2, qh2, ⟨ce2, cf2, cg2, ch2⟩, ⟨le2, lf2, lg2, lh2⟩, GR2⟩ := growR w HT.out p q p q z hp hq hp hq lz (by rw [qz]; exact farV_nonneg _ _)
      obtain rfl : e2 = e1 := ce2.eq ce1 (by rw [qe1, qe2, qz])
      obtain rfl : f2 = f1 := cf2.eq cf1 (by rw [qf1, qf2, qz])
      obtain rfl : g2 = g1 := cg2.eq cg1 (by rw [qg1, qg2, qz])
      obtain rfl : h2 = h1 := ch2.eq ch1 (by rw [qh1, qh2, qz])
      have hn1 := fun (W : World) => neq_box W e2 f2 g2 h2
      clear qe1 qf1 qg1 qh1 ce1 cf1 cg1 ch1 ce2 cf2 cg2 ch2
      rw [Hls.out] at hI
      have fx := hI.facts
      simp only [factsOf, cellsOf, Nat.zero_add, Nat.reduceAdd] at fx
      replace hI := hI.alloc 64 #[.bool p.neg, .string p.num, .string p.den, .bool q.neg, .string q.num, .string q.den, .bool p.neg, .string p.num, .string p.den, .bool q.neg, .string q.num, .string q.den]
      obtain ⟨gh, hgh⟩ : ∃ gh, gh = wc.heap.size := ⟨_, rfl⟩
      go_upto_region 9 with (fail)
      rw [← hgh] at hI ⊢
      generalize World.alloc _ _ = W5 at hI ⊢
      clear hgh fx
      refine wp_region_in hI (by kernel_rfl) (by kernel_rfl) ?_
      repeat (first
        | (refine wpSeq_off (by rfl) ?_; try simp only [Act.put, List.setIfInBounds_toArray, List.set_cons_zero, List.set_cons_succ])
        | (refine wpSeq_val (v := ?_) (by rfl) (fun W hS => ?_) ?_
           rotate_left
           · (have fx := hS.facts; simp only [factsOf, cellsOf, Nat.zero_add, Nat.reduceAdd] at fx; clear hS; go_simp; first | done | with_reducible rfl)
           try simp only [Act.put, List.setIfInBounds_toArray, List.set_cons_zero, List.set_cons_succ]))
      refine wpSeq_call (v := .agg #[.bool e2.neg, .string e2.num, .string e2.den, .bool f2.neg, .string f2.num, .string f2.den, .bool g2.neg, .string g2.num, .string g2.den, .bool h2.neg, .string h2.num, .string h2.den]) (by rfl) (fun W hS => ?_) (fun W hS => (RE1.out W hS.bel)) ?_
      · (clear hS; go_simp; done)
      try simp only [Act.put, List.setIfInBounds_toArray, List.set_cons_zero, List.set_cons_succ]
      repeat (first
        | (refine wpSeq_off (by rfl) ?_; try simp only [Act.put, List.setIfInBounds_toArray, List.set_cons_zero, List.set_cons_succ])
        | (refine wpSeq_val (v := ?_) (by rfl) (fun W hS => ?_) ?_
           rotate_left
           · (have fx := hS.facts; simp only [factsOf, cellsOf, Nat.zero_add, Nat.reduceAdd] at fx; clear hS; go_simp; first | done | with_reducible rfl)
           try simp only [Act.put, List.setIfInBounds_toArray, List.set_cons_zero, List.set_cons_succ]))
      refine wpSeq_call (v := .agg #[.bool e2.neg, .string e2.num, .string e2.den, .bool f2.neg, .string f2.num, .string f2.den, .bool g2.neg, .string g2.num, .string g2.den, .bool h2.neg, .string h2.num, .string h2.den]) (by rfl) (fun W hS => ?_) (fun W hS => (GR2.out W hS.bel)) ?_
      · (clear hS; go_simp; done)
      try simp only [Act.put, List.setIfInBounds_toArray, List.set_cons_zero, List.set_cons_succ]
      repeat (first
        | (refine wpSeq_off (by rfl) ?_; try simp only [Act.put, List.setIfInBounds_toArray, List.set_cons_zero, List.set_cons_succ])
        | (refine wpSeq_val (v := ?_) (by rfl) (fun W hS => ?_) ?_
           rotate_left
           · (have fx := hS.facts; simp only [factsOf, cellsOf, Nat.zero_add, Nat.reduceAdd] at fx; clear hS; go_simp; first | done | with_reducible rfl)
           try simp only [Act.put, List.setIfInBounds_toArray, List.set_cons_zero, List.set_cons_succ]))
      refine wpSeq_nil (fun W hS => ?_)
      clear hI hn1
      replace hI := hS
      clear hS
      go_upto_region 11 with (fail)
      have B1 := betweenR w HT.out ba p bc (hba.more (by decide)) (hp.more (by decide)) (hbc.more (by decide))
      have B2 := betweenR w HT.out bb q bd (hbb.more (by decide)) (hq.more (by decide)) (hbd.more (by decide))
      obtain ⟨i0, hi0⟩ : ∃ i0 : Bool, i0 = inB ba.q bb.q bc.q bd.q p.q q.q := ⟨_, rfl⟩
      have HIN := Lib.hid (show i0 = (btw ba.q p.q bc.q && btw bb.q q.q bd.q) by rw [hi0]; unfold inB btw; rw [Bool.and_assoc])
      have HI0 := Lib.hid hi0
      clear hi0
      obtain ⟨l2, hl2⟩ : ∃ l2 : List (Nat × TypeId × Array Value), l2 = (gh, 64, #[.bool p.neg, .string p.num, .string p.den, .bool q.neg, .string q.num, .string q.den, .bool p.neg, .string p.num, .string p.den, .bool q.neg, .string q.num, .string q.den]) :: (gf, 27, #[.bool z.neg, .string z.num, .string z.den]) :: ls := ⟨_, rfl⟩
      have Hl2 := Lib.hid hl2
      clear hl2
      go_cut [14] (fun c wx => c = .bool i0 ∧ In w l2 wx)
      case first =>
        as_aux_lemma =>
          have HIX := Lib.hid (show ∀ W, In w _ W → In w l2 W from fun W h => by rw [Hl2.out, Hls.out]; exact h)
          rcases Bool.eq_false_or_eq_true (btw ba.q p.q bc.q) with hb1 | hb1
          · rcases Bool.eq_false_or_eq_true (btw bb.q q.q bd.q) with hb2 | hb2
            · rw [hb1] at B1
              rw [hb2] at B2
              have hi1 := HIN.out
              rw [hb1, hb2] at hi1
              simp only [Bool.and_true] at hi1
              subst hi1
              clear hb1 hb2
              refine wp_region_in_plain_all hI ?_
              repeat (first
                | (refine wpSeq_off (by rfl) ?_; try simp only [Act.put, List.setIfInBounds_toArray, List.set_cons_zero, List.set_cons_succ])
                | (refine wpSeq_val (v := ?_) (by rfl) (fun W hS => ?_) ?_
                   rotate_left
                   · (have fx := hS.facts; simp only [factsOf, cellsOf, Nat.zero_add, Nat.reduceAdd] at fx; clear hS; go_simp; first | done | with_reducible rfl)
                   try simp only [Act.put, List.setIfInBounds_toArray, List.set_cons_zero, List.set_cons_succ]))
              refine wpSeq_call (v := .bool true) (by rfl) (fun W hS => ?_) (fun W hS => (B1.out W hS.bel)) ?_
              · (clear hS; go_simp; done)
              try simp only [Act.put, List.setIfInBounds_toArray, List.set_cons_zero, List.set_cons_succ]
              repeat (first
                | (refine wpSeq_off (by rfl) ?_; try simp only [Act.put, List.setIfInBounds_toArray, List.set_cons_zero, List.set_cons_succ])
                | (refine wpSeq_val (v := ?_) (by rfl) (fun W hS => ?_) ?_
                   rotate_left
                   · (have fx := hS.facts; simp only [factsOf, cellsOf, Nat.zero_add, Nat.reduceAdd] at fx; clear hS; go_simp; first | done | with_reducible rfl)
                   try simp only [Act.put, List.setIfInBounds_toArray, List.set_cons_zero, List.set_cons_succ]))
              refine wpSeq_call (v := .bool true) (by rfl) (fun W hS => ?_) (fun W hS => (B2.out W hS.bel)) ?_
              · (clear hS; go_simp; done)
              try simp only [Act.put, List.setIfInBounds_toArray, List.set_cons_zero, List.set_cons_succ]
              repeat (first
                | (refine wpSeq_off (by rfl) ?_; try simp only [Act.put, List.setIfInBounds_toArray, List.set_cons_zero, List.set_cons_succ])
                | (refine wpSeq_val (v := ?_) (by rfl) (fun W hS => ?_) ?_
                   rotate_left
                   · (have fx := hS.facts; simp only [factsOf, cellsOf, Nat.zero_add, Nat.reduceAdd] at fx; clear hS; go_simp; first | done | with_reducible rfl)
                   try simp only [Act.put, List.setIfInBounds_toArray, List.set_cons_zero, List.set_cons_succ]))
              refine wpSeq_nil (fun W hS => ?_)
              go_wp2
              go_meet
              exact ⟨rfl, HIX.out _ hS⟩
            · rw [hb1] at B1
              rw [hb2] at B2
              have hi1 := HIN.out
              rw [hb1, hb2] at hi1
              simp only [Bool.and_false] at hi1
              subst hi1
              clear hb1 hb2
              refine wp_region_in_plain_all hI ?_
              repeat (first
                | (refine wpSeq_off (by rfl) ?_; try simp only [Act.put, List.setIfInBounds_toArray, List.set_cons_zero, List.set_cons_succ])
                | (refine wpSeq_val (v := ?_) (by rfl) (fun W hS => ?_) ?_
                   rotate_left
                   · (have fx := hS.facts; simp only [factsOf, cellsOf, Nat.zero_add, Nat.reduceAdd] at fx; clear hS; go_simp; first | done | with_reducible rfl)
                   try simp only [Act.put, List.setIfInBounds_toArray, List.set_cons_zero, List.set_cons_succ]))
              refine wpSeq_call (v := .bool true) (by rfl) (fun W hS => ?_) (fun W hS => (B1.out W hS.bel)) ?_
              · (clear hS; go_simp; done)
              try simp only [Act.put, List.setIfInBounds_toArray, List.set_cons_zero, List.set_cons_succ]
              repeat (first
                | (refine wpSeq_off (by rfl) ?_; try simp only [Act.put, List.setIfInBounds_toArray, List.set_cons_zero, List.set_cons_succ])
                | (refine wpSeq_val (v := ?_) (by rfl) (fun W hS => ?_) ?_
                   rotate_left
                   · (have fx := hS.facts; simp only [factsOf, cellsOf, Nat.zero_add, Nat.reduceAdd] at fx; clear hS; go_simp; first | done | with_reducible rfl)
                   try simp only [Act.put, List.setIfInBounds_toArray, List.set_cons_zero, List.set_cons_succ]))
              refine wpSeq_call (v := .bool false) (by rfl) (fun W hS => ?_) (fun W hS => (B2.out W hS.bel)) ?_
              · (clear hS; go_simp; done)
              try simp only [Act.put, List.setIfInBounds_toArray, List.set_cons_zero, List.set_cons_succ]
              repeat (first
                | (refine wpSeq_off (by rfl) ?_; try simp only [Act.put, List.setIfInBounds_toArray, List.set_cons_zero, List.set_cons_succ])
                | (refine wpSeq_val (v := ?_) (by rfl) (fun W hS => ?_) ?_
                   rotate_left
                   · (have fx := hS.facts; simp only [factsOf, cellsOf, Nat.zero_add, Nat.reduceAdd] at fx; clear hS; go_simp; first | done | with_reducible rfl)
                   try simp only [Act.put, List.setIfInBounds_toArray, List.set_cons_zero, List.set_cons_succ]))
              refine wpSeq_nil (fun W hS => ?_)
              go_wp2
              go_meet
              exact ⟨rfl, HIX.out _ hS⟩
          · rw [hb1] at B1
            have hi1 := HIN.out
            rw [hb1] at hi1
            simp only [Bool.false_and] at hi1
            subst hi1
            clear hb1
            refine wp_region_in_plain_all hI ?_
            repeat (first
              | (refine wpSeq_off (by rfl) ?_; try simp only [Act.put, List.setIfInBounds_toArray, List.set_cons_zero, List.set_cons_succ])
              | (refine wpSeq_val (v := ?_) (by rfl) (fun W hS => ?_) ?_
                 rotate_left
                 · (have fx := hS.facts; simp only [factsOf, cellsOf, Nat.zero_add, Nat.reduceAdd] at fx; clear hS; go_simp; first | done | with_reducible rfl)
                 try simp only [Act.put, List.setIfInBounds_toArray, List.set_cons_zero, List.set_cons_succ]))
            refine wpSeq_call (v := .bool false) (by rfl) (fun W hS => ?_) (fun W hS => (B1.out W hS.bel)) ?_
            · (clear hS; go_simp; done)
            try simp only [Act.put, List.setIfInBounds_toArray, List.set_cons_zero, List.set_cons_succ]
            repeat (first
              | (refine wpSeq_off (by rfl) ?_; try simp only [Act.put, List.setIfInBounds_toArray, List.set_cons_zero, List.set_cons_succ])
              | (refine wpSeq_val (v := ?_) (by rfl) (fun W hS => ?_) ?_
                 rotate_left
                 · (have fx := hS.facts; simp only [factsOf, cellsOf, Nat.zero_add, Nat.reduceAdd] at fx; clear hS; go_simp; first | done | with_reducible rfl)
                 try simp only [Act.put, List.setIfInBounds_toArray, List.set_cons_zero, List.set_cons_succ]))
            refine wpSeq_nil (fun W hS => ?_)
            go_wp2
            go_meet
            exact ⟨rfl, HIX.out _ hS⟩
      case rest =>
        clear hI
        obtain ⟨rfl, hI⟩ := hcut
        have HW1 := withinR w HT.out ba bb bc bd p q (hba.more (by decide)) (hbb.more (by decide)) (hbc.more (by decide)) (hbd.more (by decide)) (hp.more (by decide)) (hq.more (by decide))
        rw [← HI0.out] at HW1
        have TO1 := touchR w HT.out p q x ⟨ba, bb, bc, bd⟩ hp hq hx ⟨hba.more (by decide), hbb.more (by decide), hbc.more (by decide), hbd.more (by decide)⟩ T (by omega)
        have RB1 := rboxesR w HT.out ⟨e2, f2, g2, h2⟩ ⟨ba, bb, bc, bd⟩ ⟨le2.more (by decide), lf2.more (by decide), lg2.more (by decide), lh2.more (by decide)⟩ ⟨hba.more (by decide), hbb.more (by decide), hbc.more (by decide), hbd.more (by decide)⟩
        obtain ⟨tb, htb⟩ : ∃ tb : Bool, tb = tchB p.q q.q (farV x.q T) ⟨ba, bb, bc, bd⟩ := ⟨_, rfl⟩
        have hrb : rboxB ⟨e2, f2, g2, h2⟩ ⟨ba, bb, bc, bd⟩ = tb := by
          rw [htb]
          exact rboxes_tch qe2 qf2 qg2 qh2 qz
        rw [← htb] at TO1
        rw [hrb] at RB1
        clear htb hrb qe2 qf2 qg2 qh2 B1 B2 HIN HI0
        rw [Hl2.out, Hls.out] at hI
        go_upto_region 12 with (fail)
        refine wp_region_in hI (by kernel_rfl) (by kernel_rfl) ?_
        repeat (first
          | (refine wpSeq_off (by rfl) ?_; try simp only [Act.put, List.setIfInBounds_toArray, List.set_cons_zero, List.set_cons_succ])
          | (refine wpSeq_val (v := ?_) (by rfl) (fun W hS => ?_) ?_
             rotate_left
             · (have fx := hS.facts; simp only [factsOf, cellsOf, Nat.zero_add, Nat.reduceAdd] at fx; clear hS; go_simp; first | done | with_reducible rfl)
             try simp only [Act.put, List.setIfInBounds_toArray, List.set_cons_zero, List.set_cons_succ]))
        refine wpSeq_call (v := .bool i0) (by rfl) (fun W hS => ?_) (fun W hS => (HW1.out W hS.bel)) ?_
        · (clear hS; go_simp; done)
        try simp only [Act.put, List.setIfInBounds_toArray, List.set_cons_zero, List.set_cons_succ]
        repeat (first
          | (refine wpSeq_off (by rfl) ?_; try simp only [Act.put, List.setIfInBounds_toArray, List.set_cons_zero, List.set_cons_succ])
          | (refine wpSeq_val (v := ?_) (by rfl) (fun W hS => ?_) ?_
             rotate_left
             · (have fx := hS.facts; simp only [factsOf, cellsOf, Nat.zero_add, Nat.reduceAdd] at fx; clear hS; go_simp; first | done | with_reducible rfl)
             try simp only [Act.put, List.setIfInBounds_toArray, List.set_cons_zero, List.set_cons_succ]))
        refine wpSeq_call (v := .bool tb) (by rfl) (fun W hS => ?_) (fun W hS => (TO1.out W hS.bel)) ?_
        · (clear hS; go_simp; done)
        try simp only [Act.put, List.setIfInBounds_toArray, List.set_cons_zero, List.set_cons_succ]
        repeat (first
          | (refine wpSeq_off (by rfl) ?_; try simp only [Act.put, List.setIfInBounds_toArray, List.set_cons_zero, List.set_cons_succ])
          | (refine wpSeq_val (v := ?_) (by rfl) (fun W hS => ?_) ?_
             rotate_left
             · (have fx := hS.facts; simp only [factsOf, cellsOf, Nat.zero_add, Nat.reduceAdd] at fx; clear hS; go_simp; first | done | with_reducible rfl)
             try simp only [Act.put, List.setIfInBounds_toArray, List.set_cons_zero, List.set_cons_succ]))
        refine wpSeq_call (v := .agg #[.bool e2.neg, .string e2.num, .string e2.den, .bool f2.neg, .string f2.num, .string f2.den, .bool g2.neg, .string g2.num, .string g2.den, .bool h2.neg, .string h2.num, .string h2.den]) (by rfl) (fun W hS => ?_) (fun W hS => (GR2.out W hS.bel)) ?_
        · (clear hS; go_simp; done)
        try simp only [Act.put, List.setIfInBounds_toArray, List.set_cons_zero, List.set_cons_succ]
        repeat (first
          | (refine wpSeq_off (by rfl) ?_; try simp only [Act.put, List.setIfInBounds_toArray, List.set_cons_zero, List.set_cons_succ])
          | (refine wpSeq_val (v := ?_) (by rfl) (fun W hS => ?_) ?_
             rotate_left
             · (have fx := hS.facts; simp only [factsOf, cellsOf, Nat.zero_add, Nat.reduceAdd] at fx; clear hS; go_simp; first | done | with_reducible rfl)
             try simp only [Act.put, List.setIfInBounds_toArray, List.set_cons_zero, List.set_cons_succ]))
        refine wpSeq_call (v := .bool tb) (by rfl) (fun W hS => ?_) (fun W hS => (RB1.out W hS.bel)) ?_
        · (clear hS; go_simp; done)
        try simp only [Act.put, List.setIfInBounds_toArray, List.set_cons_zero, List.set_cons_succ]
        repeat (first
          | (refine wpSeq_off (by rfl) ?_; try simp only [Act.put, List.setIfInBounds_toArray, List.set_cons_zero, List.set_cons_succ])
          | (refine wpSeq_val (v := ?_) (by rfl) (fun W hS => ?_) ?_
             rotate_left
             · (have fx := hS.facts; simp only [factsOf, cellsOf, Nat.zero_add, Nat.reduceAdd] at fx; clear hS; go_simp; first | done | with_reducible rfl)
             try simp only [Act.put, List.setIfInBounds_toArray, List.set_cons_zero, List.set_cons_succ]))
        refine wpSeq_nil (fun W hS => ?_)
        clear hI HW1 TO1 RB1 GR2
        replace hI := hS
        clear hS
        go_upto_region 14 with (fail)
        obtain ⟨bad, hbad⟩ : ∃ bad : Bool, bad = decide (gc.q < ga.q ∨ gd.q < gb.q) := ⟨_, rfl⟩
        have HBAD := Lib.hid hbad
        clear hbad
        go_cut [15, 16] (fun va ve wx => ∃ (gz : Nat) (k : Int) (e f g h : Q3), va = .pointer (some ⟨gz, 0, none⟩) ∧ ve = .int .i64 k ∧ GateIs ga gb gc gd (farV x.q T) k e f g h ∧ In w ((gz, 64, #[.bool e.neg, .string e.num, .string e.den, .bool f.neg, .string f.num, .string f.den, .bool g.neg, .string g.num, .string g.den, .bool h.neg, .string h.num, .string h.den]) :: l2) wx)
        case first =>
          as_aux_lemma =>
            have fx := hI.facts
            simp only [factsOf, cellsOf, Nat.zero_add, Nat.reduceAdd] at fx
            cases bad with
            | true =>
              have hbd : gc.q < ga.q ∨ gd.q < gb.q := of_decide_eq_true HBAD.out.symm
              go_wp2_with fail
              refine (gate_bad _ (tabs w HT.out hI.bel) nm ⟨ga, gb, gc, gd⟩ x T ⟨hga.more (by decide), hgb.more (by decide), hgc.more (by decide), hgd.more (by decide)⟩ hbd).mono ?_
              rintro r wn ⟨rfl, hb⟩
              replace hI := hI.call hb
              clear hb fx
              replace hI := hI.alloc 64 #[.bool false, .string { data := #[] }, .string { data := #[] }, .bool false, .string { data := #[] }, .string { data := #[] }, .bool false, .string { data := #[] }, .string { data := #[] }, .bool false, .string { data := #[] }, .string { data := #[] }]
              obtain ⟨gz, hgz⟩ : ∃ gz, gz = wn.heap.size := ⟨_, rfl⟩
              go_wp2_with fail
              rw [← hgz] at hI ⊢
              generalize World.alloc _ _ = W6 at hI ⊢
              go_meet
              exact ⟨gz, 3, zeroQ3, zeroQ3, zeroQ3, zeroQ3, rfl, rfl, .inl ⟨hbd, rfl, rfl, rfl, rfl, rfl⟩, by rw [Hl2.out, Hls.out]; exact hI⟩
            | false =>
              have hbd : ¬ (gc.q < ga.q ∨ gd.q < gb.q) := of_decide_eq_false HBAD.out.symm
              obtain ⟨e, f, g, h, qe, qf, qg, qh, ⟨ce, cf, cg, ch⟩, GO⟩ := gate_ok _ (tabs w HT.out hI.bel) nm ⟨ga, gb, gc, gd⟩ x T (by omega) ⟨hga, hgb, hgc, hgd⟩ hx (Rat.not_lt.mp fun h => hbd (.inl h)) (Rat.not_lt.mp fun h => hbd (.inr h))
              have HG := Lib.hid (show GateIs ga gb gc gd (farV x.q T) 0 e f g h from .inr ⟨hbd, rfl, qe, qf, qg, qh, ce, cf, cg, ch⟩)
              clear qe qf qg qh ce cf cg ch
              go_wp2_with fail
              refine GO.mono ?_
              rintro r wn ⟨rfl, hb⟩
              replace hI := hI.call hb
              clear hb fx
              replace hI := hI.alloc 64 #[.bool e.neg, .string e.num, .string e.den, .bool f.neg, .string f.num, .string f.den, .bool g.neg, .string g.num, .string g.den, .bool h.neg, .string h.num, .string h.den]
              obtain ⟨gz, hgz⟩ : ∃ gz, gz = wn.heap.size := ⟨_, rfl⟩
              go_wp2_with fail
              rw [← hgz] at hI ⊢
              generalize World.alloc _ _ = W6 at hI ⊢
              go_meet
              exact ⟨gz, 0, e, f, g, h, rfl, rfl, HG.out, by rw [Hl2.out, Hls.out]; exact hI⟩
        case rest =>
          clear hI
          obtain ⟨gz, k, e, f, g, h, rfl, rfl, hG, hI⟩ := hcut
          clear HBAD
          obtain ⟨c1, _, p1, _, C1⟩ := cmpR w HT.out ga gc hga hgc
          obtain ⟨c2, _, p2, _, C2⟩ := cmpR w HT.out gb gd hgb hgd
          obtain ⟨l3, hl3⟩ : ∃ l3 : List (Nat × TypeId × Array Value), l3 = (gz, 64, #[.bool e.neg, .string e.num, .string e.den, .bool f.neg, .string f.num, .string f.den, .bool g.neg, .string g.num, .string g.den, .bool h.neg, .string h.num, .string h.den]) :: l2 := ⟨_, rfl⟩
          have Hl3 := Lib.hid hl3
          rw [← hl3] at hI
          obtain ⟨bad, hbad⟩ : ∃ bad : Bool, bad = decide (k = 3) := ⟨_, rfl⟩
          have HG2 := Lib.hid (show (bad = true ∧ (c1 > 0 ∨ (¬ c1 > 0 ∧ c2 > 0))) ∨ (bad = false ∧ ¬ c1 > 0 ∧ ¬ c2 > 0) from by
            rw [hbad]
            rcases hG with ⟨hb, rfl, _⟩ | ⟨hb, rfl, _⟩
            · refine .inl ⟨rfl, ?_⟩
              by_cases h1 : c1 > 0
              · exact .inl h1
              · exact .inr ⟨h1, p2.mpr (hb.resolve_left fun h => h1 (p1.mpr h))⟩
            · exact .inr ⟨rfl, fun h => hb (.inl (p1.mp h)), fun h => hb (.inr (p2.mp h))⟩)
          have HG := Lib.hid hG
          have HBD := Lib.hid hbad
          clear hG p1 p2 hl3 hbad
          go_upto_region 15 with (fail)
          go_cut [128] (fun c wx => c = .bool bad ∧ In w l3 wx)
          case first =>
            as_aux_lemma =>
              have HIX := Lib.hid (show ∀ W, In w _ W → In w l3 W from fun W h => by rw [Hl3.out, Hl2.out, Hls.out]; exact h)
              rw [Hl3.out, Hl2.out, Hls.out] at hI
              rcases HG2.out with ⟨rfl, h1 | ⟨h1, h2⟩⟩ | ⟨rfl, h1, h2⟩
              · refine wp_region_in_plain_all hI ?_
                repeat (first
                  | (refine wpSeq_off (by rfl) ?_; try simp only [Act.put, List.setIfInBounds_toArray, List.set_cons_zero, List.set_cons_succ])
                  | (refine wpSeq_val (v := ?_) (by rfl) (fun W hS => ?_) ?_
                     rotate_left
                     · (have fx := hS.facts; simp only [factsOf, cellsOf, Nat.zero_add, Nat.reduceAdd] at fx; clear hS; go_simp; first | done | with_reducible rfl)
                     try simp only [Act.put, List.setIfInBounds_toArray, List.set_cons_zero, List.set_cons_succ]))
                refine wpSeq_call (v := .int .i64 c1) (by rfl) (fun W hS => ?_) (fun W hS => (C1.out W hS.bel)) ?_
                · (clear hS; go_simp; done)
                try simp only [Act.put, List.setIfInBounds_toArray, List.set_cons_zero, List.set_cons_succ]
                repeat (first
                  | (refine wpSeq_off (by rfl) ?_; try simp only [Act.put, List.setIfInBounds_toArray, List.set_cons_zero, List.set_cons_succ])
                  | (refine wpSeq_val (v := ?_) (by rfl) (fun W hS => ?_) ?_
                     rotate_left
                     · (have fx := hS.facts; simp only [factsOf, cellsOf, Nat.zero_add, Nat.reduceAdd] at fx; clear hS; go_simp; first | done | with_reducible rfl)
                     try simp only [Act.put, List.setIfInBounds_toArray, List.set_cons_zero, List.set_cons_succ]))
                refine wpSeq_nil (fun W hS => ?_)
                go_wp2
                go_meet
                exact ⟨rfl, HIX.out _ hS⟩
              · refine wp_region_in_plain_all hI ?_
                repeat (first
                  | (refine wpSeq_off (by rfl) ?_; try simp only [Act.put, List.setIfInBounds_toArray, List.set_cons_zero, List.set_cons_succ])
                  | (refine wpSeq_val (v := ?_) (by rfl) (fun W hS => ?_) ?_
                     rotate_left
                     · (have fx := hS.facts; simp only [factsOf, cellsOf, Nat.zero_add, Nat.reduceAdd] at fx; clear hS; go_simp; first | done | with_reducible rfl)
                     try simp only [Act.put, List.setIfInBounds_toArray, List.set_cons_zero, List.set_cons_succ]))
                refine wpSeq_call (v := .int .i64 c1) (by rfl) (fun W hS => ?_) (fun W hS => (C1.out W hS.bel)) ?_
                · (clear hS; go_simp; done)
                try simp only [Act.put, List.setIfInBounds_toArray, List.set_cons_zero, List.set_cons_succ]
                repeat (first
                  | (refine wpSeq_off (by rfl) ?_; try simp only [Act.put, List.setIfInBounds_toArray, List.set_cons_zero, List.set_cons_succ])
                  | (refine wpSeq_val (v := ?_) (by rfl) (fun W hS => ?_) ?_
                     rotate_left
                     · (have fx := hS.facts; simp only [factsOf, cellsOf, Nat.zero_add, Nat.reduceAdd] at fx; clear hS; go_simp; first | done | with_reducible rfl)
                     try simp only [Act.put, List.setIfInBounds_toArray, List.set_cons_zero, List.set_cons_succ]))
                refine wpSeq_call (v := .int .i64 c2) (by rfl) (fun W hS => ?_) (fun W hS => (C2.out W hS.bel)) ?_
                · (clear hS; go_simp; done)
                try simp only [Act.put, List.setIfInBounds_toArray, List.set_cons_zero, List.set_cons_succ]
                repeat (first
                  | (refine wpSeq_off (by rfl) ?_; try simp only [Act.put, List.setIfInBounds_toArray, List.set_cons_zero, List.set_cons_succ])
                  | (refine wpSeq_val (v := ?_) (by rfl) (fun W hS => ?_) ?_
                     rotate_left
                     · (have fx := hS.facts; simp only [factsOf, cellsOf, Nat.zero_add, Nat.reduceAdd] at fx; clear hS; go_simp; first | done | with_reducible rfl)
                     try simp only [Act.put, List.setIfInBounds_toArray, List.set_cons_zero, List.set_cons_succ]))
                refine wpSeq_nil (fun W hS => ?_)
                go_wp2
                go_meet
                exact ⟨rfl, HIX.out _ hS⟩
              · refine wp_region_in_plain_all hI ?_
                repeat (first
                  | (refine wpSeq_off (by rfl) ?_; try simp only [Act.put, List.setIfInBounds_toArray, List.set_cons_zero, List.set_cons_succ])
                  | (refine wpSeq_val (v := ?_) (by rfl) (fun W hS => ?_) ?_
                     rotate_left
                     · (have fx := hS.facts; simp only [factsOf, cellsOf, Nat.zero_add, Nat.reduceAdd] at fx; clear hS; go_simp; first | done | with_reducible rfl)
                     try simp only [Act.put, List.setIfInBounds_toArray, List.set_cons_zero, List.set_cons_succ]))
                refine wpSeq_call (v := .int .i64 c1) (by rfl) (fun W hS => ?_) (fun W hS => (C1.out W hS.bel)) ?_
                · (clear hS; go_simp; done)
                try simp only [Act.put, List.setIfInBounds_toArray, List.set_cons_zero, List.set_cons_succ]
                repeat (first
                  | (refine wpSeq_off (by rfl) ?_; try simp only [Act.put, List.setIfInBounds_toArray, List.set_cons_zero, List.set_cons_succ])
                  | (refine wpSeq_val (v := ?_) (by rfl) (fun W hS => ?_) ?_
                     rotate_left
                     · (have fx := hS.facts; simp only [factsOf, cellsOf, Nat.zero_add, Nat.reduceAdd] at fx; clear hS; go_simp; first | done | with_reducible rfl)
                     try simp only [Act.put, List.setIfInBounds_toArray, List.set_cons_zero, List.set_cons_succ]))
                refine wpSeq_call (v := .int .i64 c2) (by rfl) (fun W hS => ?_) (fun W hS => (C2.out W hS.bel)) ?_
                · (clear hS; go_simp; done)
                try simp only [Act.put, List.setIfInBounds_toArray, List.set_cons_zero, List.set_cons_succ]
                repeat (first
                  | (refine wpSeq_off (by rfl) ?_; try simp only [Act.put, List.setIfInBounds_toArray, List.set_cons_zero, List.set_cons_succ])
                  | (refine wpSeq_val (v := ?_) (by rfl) (fun W hS => ?_) ?_
                     rotate_left
                     · (have fx := hS.facts; simp only [factsOf, cellsOf, Nat.zero_add, Nat.reduceAdd] at fx; clear hS; go_simp; first | done | with_reducible rfl)
                     try simp only [Act.put, List.setIfInBounds_toArray, List.set_cons_zero, List.set_cons_succ]))
                refine wpSeq_nil (fun W hS => ?_)
                go_wp2
                go_meet
                exact ⟨rfl, HIX.out _ hS⟩
          case rest =>
            clear hI
            obtain ⟨rfl, hI⟩ := hcut
            clear C1 C2 HG2
            go_upto_if 128 with (fail)
            go_cut [] (fun wx => In w l2 wx)
            case first =>
              as_aux_lemma =>
                rcases HG.out with ⟨hb, rfl, rfl, rfl, rfl, rfl⟩ | ⟨hb, rfl, qe, qf, qg, qh, ce, cf, cg, ch⟩
                · obtain rfl : bad = true := by rw [HBD.out]; rfl
                  rw [Hl3.out, Hl2.out, Hls.out] at hI
                  have fx := hI.facts
                  simp only [factsOf, cellsOf, Nat.zero_add, Nat.reduceAdd] at fx
                  have hn1 := fun (W : World) => neq_box W zeroQ3 zeroQ3 zeroQ3 zeroQ3
                  simp only [zeroQ3] at hI hn1 fx
                  go_upto_region 16 with (fail)
                  clear fx
                  refine wp_region_in_plain_all hI ?_
                  repeat (first
                    | (refine wpSeq_off (by rfl) ?_; try simp only [Act.put, List.setIfInBounds_toArray, List.set_cons_zero, List.set_cons_succ])
                    | (refine wpSeq_val (v := ?_) (by rfl) (fun W hS => ?_) ?_
                       rotate_left
                       · (have fx := hS.facts; simp only [factsOf, cellsOf, Nat.zero_add, Nat.reduceAdd] at fx; clear hS; go_simp; first | done | with_reducible rfl)
                       try simp only [Act.put, List.setIfInBounds_toArray, List.set_cons_zero, List.set_cons_succ]))
                  refine wpSeq_nil (fun W hS => ?_)
                  clear hI
                  go_wp2_with fail
                  go_meet
                  have hS1 : In w (_ :: (gh, 64, #[.bool p.neg, .string p.num, .string p.den, .bool q.neg, .string q.num, .string q.den, .bool p.neg, .string p.num, .string p.den, .bool q.neg, .string q.num, .string q.den]) :: (gf, 27, #[.bool z.neg, .string z.num, .string z.den]) :: _) W := hS
                  rw [Hl2.out, Hls.out]
                  exact hS1.tail
                · rw [Hl3.out, Hl2.out, Hls.out] at hI
                  obtain rfl : bad = false := by rw [HBD.out]; rfl
                  obtain ⟨e9, f9, g9, h9, qe9, qf9, qg9, qh9, ⟨ce9, cf9, cg9, ch9⟩, _, GR9⟩ := growR w HT.out ga gb gc gd z hga hgb hgc hgd lz (by rw [qz]; exact farV_nonneg _ _)
                  obtain rfl : e9 = e := ce9.eq ce (by rw [qe9, qe, qz])
                  obtain rfl : f9 = f := cf9.eq cf (by rw [qf9, qf, qz])
                  obtain rfl : g9 = g := cg9.eq cg (by rw [qg9, qg, qz])
                  obtain rfl : h9 = h := ch9.eq ch (by rw [qh9, qh, qz])
                  have hn1 := fun (W : World) => neq_box W e9 f9 g9 h9
                  clear qe qf qg qh ce cf cg ch qe9 qf9 qg9 qh9 ce9 cf9 cg9 ch9
                  go_upto_region 18 with (fail)
                  refine wp_region_in hI (by kernel_rfl) (by kernel_rfl) ?_
                  repeat (first
                    | (refine wpSeq_off (by rfl) ?_; try simp only [Act.put, List.setIfInBounds_toArray, List.set_cons_zero, List.set_cons_succ])
                    | (refine wpSeq_val (v := ?_) (by rfl) (fun W hS => ?_) ?_
                       rotate_left
                       · (have fx := hS.facts; simp only [factsOf, cellsOf, Nat.zero_add, Nat.reduceAdd] at fx; clear hS; go_simp; first | done | with_reducible rfl)
                       try simp only [Act.put, List.setIfInBounds_toArray, List.set_cons_zero, List.set_cons_succ]))
                  refine wpSeq_call (v := .agg #[.bool e9.neg, .string e9.num, .string e9.den, .bool f9.neg, .string f9.num, .string f9.den, .bool g9.neg, .string g9.num, .string g9.den, .bool h9.neg, .string h9.num, .string h9.den]) (by rfl) (fun W hS => ?_) (fun W hS => (GR9.out W hS.bel)) ?_
                  · (clear hS; go_simp; done)
                  try simp only [Act.put, List.setIfInBounds_toArray, List.set_cons_zero, List.set_cons_succ]
                  repeat (first
                    | (refine wpSeq_off (by rfl) ?_; try simp only [Act.put, List.setIfInBounds_toArray, List.set_cons_zero, List.set_cons_succ])
                    | (refine wpSeq_val (v := ?_) (by rfl) (fun W hS => ?_) ?_
                       rotate_left
                       · (have fx := hS.facts; simp only [factsOf, cellsOf, Nat.zero_add, Nat.reduceAdd] at fx; clear hS; go_simp; first | done | with_reducible rfl)
                       try simp only [Act.put, List.setIfInBounds_toArray, List.set_cons_zero, List.set_cons_succ]))
                  refine wpSeq_nil (fun W hS => ?_)
                  clear hI
                  go_wp2_with fail
                  go_meet
                  have hS1 : In w ((gz, 64, #[.bool e9.neg, .string e9.num, .string e9.den, .bool f9.neg, .string f9.num, .string f9.den, .bool g9.neg, .string g9.num, .string g9.den, .bool h9.neg, .string h9.num, .string h9.den]) :: (gh, 64, #[.bool p.neg, .string p.num, .string p.den, .bool q.neg, .string q.num, .string q.den, .bool p.neg, .string p.num, .string p.den, .bool q.neg, .string q.num, .string q.den]) :: (gf, 27, #[.bool z.neg, .string z.num, .string z.den]) :: _) W := hS
                  rw [Hl2.out, Hls.out]
                  exact hS1.tail
            case rest =>
              clear hI
              replace hI := hcut
              clear hcut HG HBD
              obtain ⟨most, hmost⟩ : ∃ most, most = T.tmod 60 := ⟨_, rfl⟩
              have hmb : -60 < most ∧ most < 60 := by
                rw [hmost]
                rcases Int.le_total 0 T with h | h
                · rw [Int.tmod_eq_emod_of_nonneg h]; omega
                · have h1 := Int.tmod_eq_emod_of_nonneg (b := 60) (show 0 ≤ -T by omega)
                  rw [Int.neg_tmod] at h1
                  omega
              have hwm : IntKind.i64.wrap most = most := by rw [IntKind.wrap_i64]; omega
              obtain ⟨TB, hTB⟩ : ∃ TB : Int → Bool, TB = fun t => tchB p.q q.q (farV x.q t) ⟨ba, bb, bc, bd⟩ := ⟨_, rfl⟩
              have TO := Lib.hid (show ∀ t, -9223372036854775808 ≤ t ∧ t ≤ 9223372036854775807 → Hid (∀ W, Below w.heap.size w W → Calls Tryd.prog 50 #[.agg #[.bool p.neg, .string p.num, .string p.den, .bool q.neg, .string q.num, .string q.den], .agg #[.bool x.neg, .string x.num, .string x.den], .int .i64 t, .agg #[.bool ba.neg, .string ba.num, .string ba.den, .bool bb.neg, .string bb.num, .string bb.den, .bool bc.neg, .string bc.num, .string bc.den, .bool bd.neg, .string bd.num, .string bd.den]] W fun r w' => r = .returned (.bool (TB t)) ∧ Below W.heap.size W w') from fun t ht => by rw [hTB]; exact touchR w HT.out p q x ⟨ba, bb, bc, bd⟩ hp hq hx ⟨hba.more (by decide), hbb.more (by decide), hbc.more (by decide), hbd.more (by decide)⟩ t ht)
              have HMO := Lib.hid (show ∀ t t', t ≤ t' → TB t = true → TB t' = true from fun t t' h h1 => by rw [hTB] at h1 ⊢; exact tchB_mono (farV_mono h) h1)
              have HWH := Lib.hid (show ∀ W, Below w.heap.size w W → Calls Tryd.prog 49 #[.agg #[.bool p.neg, .string p.num, .string p.den, .bool q.neg, .string q.num, .string q.den], .agg #[.bool x.neg, .string x.num, .string x.den], .int .i64 most, .agg #[.bool ba.neg, .string ba.num, .string ba.den, .bool bb.neg, .string bb.num, .string bb.den, .bool bc.neg, .string bc.num, .string bc.den, .bool bd.neg, .string bd.num, .string bd.den]] W fun r w' => ∃ z, r = .returned (.int .i64 z) ∧ WhenIs TB most z ∧ Below W.heap.size W w' from fun W hW => by rw [hTB]; exact when_any W (tabs w HT.out hW) p q x ⟨ba, bb, bc, bd⟩ hp hq hx ⟨hba.more (by decide), hbb.more (by decide), hbc.more (by decide), hbd.more (by decide)⟩ most (by omega))
              have hst := Lib.hid (show ZtRel w l2 TB most (.int .i64 (-1)) (.int .i64 most) wc from ⟨most, -1, rfl, rfl, by omega, .inl ⟨rfl, fun j h1 h2 => by omega⟩, hI⟩)
              clear hTB hI
              go_wp2_with fail
              rw [← hmost]
              clear hmost
              go_loopw [18, 19] (fun z k wr => ZtRel w l2 TB most z k wr) (fun _ k _ => (intOf k + 1).toNat)
              case atStart => exact hst.out
              case round =>
                clear hst
                obtain ⟨k, z, rfl, rfl, hk, hz, hI⟩ := hrel
                rw [Hl2.out, Hls.out] at hI
                have HZ := Lib.hid hz
                clear hz
                by_cases hk0 : k ≥ 0
                · have hwk : IntKind.i64.wrap (k - 1) = k - 1 := by rw [IntKind.wrap_i64]; omega
                  have TK := TO.out k (by omega)
                  have fx := hI.facts
                  simp only [factsOf, cellsOf, Nat.zero_add, Nat.reduceAdd] at fx
                  cases hT1 : TB k with
                  | true =>
                    rw [hT1] at TK
                    have HN := Lib.hid (show ∀ W, In w l2 W → ZtRel w l2 TB most (.int .i64 k) (.int .i64 (k - 1)) W from fun W h => ⟨k - 1, k, rfl, rfl, by omega, .inr ⟨by omega, hk0, by omega, hT1, fun j h1 h2 => by omega⟩, h⟩)
                    clear hT1
                    go_wp2_with fail
                    refine (TK.out _ hI.bel).mono ?_
                    rintro e wn ⟨rfl, hb⟩
                    replace hI := hI.call hb
                    clear hb
                    have hrel := HN.out wn (by rw [Hl2.out, Hls.out]; exact hI)
                    clear fx hI HN
                    go_wp2_with fail
                    go_roundw
                    case rel => exact hrel
                    case measure => simp [intOf]; omega
                  | false =>
                    rw [hT1] at TK
                    have HN := Lib.hid (show ∀ W, In w l2 W → ZtRel w l2 TB most (.int .i64 z) (.int .i64 (k - 1)) W from fun W h => ⟨k - 1, z, rfl, rfl, by omega, by
                      rcases HZ.out with ⟨h1, h2⟩ | ⟨h1, h0, h2, h3, h4⟩
                      · refine .inl ⟨h1, fun j hj1 hj2 => ?_⟩
                        rcases Int.lt_or_le k j with h | h
                        · exact h2 j h hj2
                        · obtain rfl : j = k := by omega
                          exact hT1
                      · refine .inr ⟨by omega, h0, h2, h3, fun j hj1 hj2 => ?_⟩
                        rcases Int.lt_or_le k j with h | h
                        · exact h4 j h hj2
                        · obtain rfl : j = k := by omega
                          exact hT1, h⟩)
                    clear hT1
                    go_wp2_with fail
                    refine (TK.out _ hI.bel).mono ?_
                    rintro e wn ⟨rfl, hb⟩
                    replace hI := hI.call hb
                    clear hb
                    have hrel := HN.out wn (by rw [Hl2.out, Hls.out]; exact hI)
                    clear fx hI HN
                    go_wp2_with fail
                    go_roundw
                    case rel => exact hrel
                    case measure => simp [intOf]; omega
                · have fx := hI.facts
                  simp only [factsOf, cellsOf, Nat.zero_add, Nat.reduceAdd] at fx
                  have hbel := hI.bel
                  go_wp2_with fail
                  refine (HWH.out _ hbel).mono ?_
                  rintro r wn ⟨y, rfl, hy, hb⟩
                  have hend := hbel.trans (hb.mono hbel.size)
                  obtain rfl : y = z := when_uniq hy (show k = -1 ∨ (k < -1 ∧ most = k) by omega) HZ.out HMO.out
                  clear hb fx hI
                  go_wp2
                  go_ret
                  exact ⟨rfl, hend⟩
end Go.Proofs.YthmgcbpmfipfiaaDoor.zoneTells
