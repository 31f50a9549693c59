/- FeelTells: the walk. Conditions: those typed. -/
import Derived.Test.YthmgcbpmfipfiaaDoorMeans
import Derived.Test.YthmgcbpmfipfiaaDoorTouches
import Derived.Test.YthmgcbpmfipfiaaDoorBetween
import Derived.Test.YthmgcbpmfipfiaaDoorQArgs
namespace Go.Proofs.YthmgcbpmfipfiaaDoor.feelTells
open Go.RowKit Go.Gy
set_option linter.unusedVariables false
theorem wf_i64 {n : Int} (h : wfI .i64 n) : -9223372036854775808 ≤ n ∧ n ≤ 9223372036854775807 := by
  simpa [wfI, Lit.wf, IntKind.min, IntKind.max, IntKind.signed, IntKind.bits] using h
/-- the first reading from m on that must stop -/
def FirstFrom (lim jump : Rat) (L : List Rat) (m : Nat) (f : Int) : Prop := (f = -1 ∧ ∀ j, m ≤ j → ¬ stopAt lim jump L j) ∨ ∃ k : Nat, m ≤ k ∧ f = k ∧ stopAt lim jump L k ∧ ∀ j, m ≤ j → j < k → ¬ stopAt lim jump L j
theorem FirstFrom.stop {lim jump : Rat} {L : List Rat} {f : Int} (h : FirstFrom lim jump L 0 f) : StopIs lim jump L f := by
  rcases h with ⟨h1, h2⟩ | ⟨k, _, h1, h2, h3⟩
  · exact .inr ⟨h1, fun j => h2 j (Nat.zero_le j)⟩
  · exact .inl ⟨k, h1, h2, fun j hj => h3 j (Nat.zero_le j) hj⟩
theorem FirstFrom.yes {lim jump : Rat} {L : List Rat} {m : Nat} (h : stopAt lim jump L m) : FirstFrom lim jump L m m := .inr ⟨m, Nat.le_refl _, rfl, h, fun j h1 h2 => by omega⟩
theorem FirstFrom.no {lim jump : Rat} {L : List Rat} {m : Nat} {f : Int} (h : FirstFrom lim jump L (m + 1) f) (hn : ¬ stopAt lim jump L m) : FirstFrom lim jump L m f := by
  rcases h with ⟨h1, h2⟩ | ⟨k, hk, h1, h2, h3⟩
  · refine .inl ⟨h1, fun j hj => ?_⟩
    rcases Nat.lt_or_ge m j with h | h
    · exact h2 j (by omega)
    · rw [show j = m by omega]; exact hn
  · refine .inr ⟨k, by omega, h1, h2, fun j hj hjk => ?_⟩
    rcases Nat.lt_or_ge m j with h | h
    · exact h3 j (by omega) hjk
    · rw [show j = m by omega]; exact hn
theorem btw_neg (j d : Rat) : (!btw (-j) d j) = decide (j < absQ d) := by
  unfold btw
  rw [Bool.eq_iff_iff]
  simp only [Bool.not_eq_true', Bool.and_eq_false_iff, decide_eq_false_iff_not, decide_eq_true_eq]
  unfold absQ
  split <;> grind
def FtRel (w : World) (ls : List (Nat × TypeId × Array Value)) (r1 r2 : Q3) (L : List Rat) (n : Nat) (first i : Value) (wr : World) : Prop :=
  ∃ (m : Nat) (f : Int), m ≤ n ∧ i = .int .i64 ((m : Int) - 1) ∧ first = .int .i64 f ∧ FirstFrom r1.q r2.q L m f ∧ In w ls wr
theorem first4 : StopIs 5 2 [1, 4] 1 := by
  refine .inl ⟨1, rfl, ⟨4, rfl, .inr ⟨1, by decide, rfl, by rw [show (4 : Rat) - 1 = 3 by grind]; decide⟩⟩, fun j hj => ?_⟩
  obtain rfl : j = 0 := by omega
  rintro ⟨x, hx, h | ⟨y, h, _⟩⟩
  · cases hx; exact absurd h (by decide)
  · exact absurd h (Nat.lt_irrefl 0)
set_option maxRecDepth 100000 in
set_option maxHeartbeats 8000000 in
theorem walk (vr v vlo vhi : Value) (hold n : Int) (w : World) {b0 b1 b2 b3 : Nat} (f0 : RuleArg w vr b0) (f1 : QuotsArg w v b1) (f2 : QuotArg w vlo b2) (f3 : QuotArg w vhi b3) (wh : wfI .i64 hold) (wn : wfI .i64 n) (hT : TabW w) (hk : b0 + b1 + b2 + b3 ≤ 1048576) :
    Calls Tryd.prog 6 #[vr, v, vlo, vhi, .int .i64 hold, .int .i64 n] w fun e w' => e = .returned (.bool true) ∧ Below w.heap.size w w' := by
  obtain ⟨r1, r2, rfl, h1, h2⟩ := f0
  obtain ⟨l, hv, hl, hll⟩ := f1
  obtain ⟨lo, rfl, hlo⟩ := f2
  obtain ⟨hi, rfl, hhi⟩ := f3
  replace h1 : r1.le 1048576 := h1.more (by omega)
  replace h2 : r2.le 1048576 := h2.more (by omega)
  replace hl : ∀ x ∈ l, x.le 1048576 := fun x hx => (hl x hx).more (by omega)
  replace hlo : lo.le 1048576 := hlo.more (by omega)
  replace hhi : hi.le 1048576 := hhi.more (by omega)
  have hn := (wf_i64 wn).2
  have HT := Lib.hid hT
  obtain ⟨A, N, c, rfl, hlN, hNc, hA, hrd⟩ := id hv
  subst hlN
  have HV := Lib.hid hv
  have HRD := Lib.hid hrd
  obtain ⟨z5, q5, _, l5, O5⟩ := ofR w hT 5
  obtain ⟨z2, q2, _, l2, O2⟩ := ofR w hT 2
  obtain ⟨z1, q1, _, l1, O1⟩ := ofR w hT 1
  obtain ⟨z4, q4, _, l4, O4⟩ := ofR w hT 4
  have hI := (((In.start w).alloc 33 #[.bool r1.neg, .string r1.num, .string r1.den, .bool r2.neg, .string r2.num, .string r2.den]).alloc 27 #[.bool lo.neg, .string lo.num, .string lo.den]).alloc 27 #[.bool hi.neg, .string hi.num, .string hi.den]
  rw [World.size_alloc, World.size_alloc] at hI
  clear hv hrd wh wn hT hk
  go_enter Tryd.func6, Tryd.ntmps6
  go_wp2_with fail
  generalize World.alloc _ _ = W1 at hI ⊢
  refine (O5.out _ hI.bel).mono ?_
  rintro e wn ⟨rfl, hb⟩
  replace hI := hI.call hb
  clear hb
  go_wp2_with fail
  refine (O2.out _ hI.bel).mono ?_
  rintro e wn ⟨rfl, hb⟩
  replace hI := hI.call hb
  clear hb
  go_wp2_with fail
  refine (O1.out _ hI.bel).mono ?_
  rintro e wn ⟨rfl, hb⟩
  replace hI := hI.call hb
  clear hb
  go_wp2_with fail
  refine (O4.out _ hI.bel).mono ?_
  rintro e wn ⟨rfl, hb⟩
  replace hI := hI.call hb
  clear hb
  go_wp2_with fail
  have hJ := hI.alloc 27 #[.bool z1.neg, .string z1.num, .string z1.den, .bool z4.neg, .string z4.num, .string z4.den]
  generalize World.alloc _ _ = W2 at hJ ⊢
  have hs := hJ.slq (k := 0) rfl [z1, z4] rfl
  refine (stop_any W2 z5 z2 (l5.more (by decide)) (l2.more (by decide)) _ [z1, z4] hs (fun x hx => by
    rcases List.mem_cons.1 hx with rfl | hx
    · exact l1.more (by decide)
    · rcases List.mem_cons.1 hx with rfl | hx
      · exact l4.more (by decide)
      · cases hx) (tabs w HT.out hJ.bel)).mono ?_
  rintro e w3 ⟨x, k, rfl, hp, hb⟩
  have hp2 : x = 1 ∧ k = 0 := by
    unfold StopPost at hp
    rw [q5, q2, if_pos ⟨by decide, by decide⟩, if_neg (by rw [List.length_map]; simp)] at hp
    refine ⟨StopIs.unique hp.1 ?_, hp.2⟩
    rw [List.map_cons, List.map_cons, List.map_nil, q1, q4]
    exact first4
  obtain ⟨rfl, rfl⟩ := hp2
  replace hI := (hJ.call hb).tail
  clear hb hp hs hJ O5 O2 O1 O4 q5 q2 q1 q4 l5 l2 l1 l4
  obtain ⟨c1, _, p1, _, S1⟩ := signR w HT.out r1 h1
  obtain ⟨c2, _, p2, _, S2⟩ := signR w HT.out r2 h2
  have HCK := Lib.hid (fun W hW => check_any W r1.neg r1.num r1.den r2.neg r2.num r2.den r1.q r2.q rfl rfl (by have := h1.1; omega) (by have := h1.2; omega) (by have := h2.1; omega) (by have := h2.2; omega) (tabs w HT.out hW))
  have HST := Lib.hid (fun W hW => stop_any W r1 r2 (h1.more (by decide)) (h2.more (by decide)) (.slice A l.length c) l ((HV.out.below hW).more (hW : Below w.heap.size w W).size) (fun x hx => (hl x hx).more (by decide)) (tabs w HT.out hW))
  have fx := hI.facts
  simp only [factsOf, cellsOf, Nat.zero_add, Nat.reduceAdd] at fx
  by_cases hgood : 0 < r1.q ∧ 0 < r2.q
  · have g1 : ¬ c1 < 1 := by have := p1.mpr hgood.1; omega
    have g2 : ¬ c2 < 1 := by have := p2.mpr hgood.2; omega
    rw [show ruleE r1.q r2.q = 0 from if_pos hgood] at HCK
    clear p1 p2
    go_wp2_with fail
    refine (S1.out _ hI.bel).mono ?_
    rintro e wn ⟨rfl, hb⟩
    replace hI := hI.call hb
    clear hb fx
    have fx := hI.facts
    simp only [factsOf, cellsOf, Nat.zero_add, Nat.reduceAdd] at fx
    go_wp2_with fail
    refine (S2.out _ hI.bel).mono ?_
    rintro e wn ⟨rfl, hb⟩
    replace hI := hI.call hb
    clear hb fx
    have fx := hI.facts
    simp only [factsOf, cellsOf, Nat.zero_add, Nat.reduceAdd] at fx
    go_wp2_with fail
    refine (HCK.out _ hI.bel).mono ?_
    rintro e wn ⟨rfl, hb⟩
    replace hI := hI.call hb
    clear hb fx
    have fx := hI.facts
    simp only [factsOf, cellsOf, Nat.zero_add, Nat.reduceAdd] at fx
    by_cases hlong : l.length > 1000
    · have hli : (l.length : Int) > 1000 := by omega
      go_wp2_with fail
      refine (HST.out _ hI.bel).mono ?_
      rintro e w9 ⟨x, k, rfl, hp, hb⟩
      have hp2 : x = 0 ∧ k = 2 := by
        unfold StopPost at hp
        rw [if_pos hgood, if_pos (by rw [List.length_map]; exact hlong)] at hp
        exact hp
      obtain ⟨rfl, rfl⟩ := hp2
      replace hI := hI.call hb
      clear hb hp fx
      go_wp2
      go_ret
      exact ⟨rfl, hI.bel⟩
    · have hli : ¬ (l.length : Int) > 1000 := by omega
      have hn1000 : l.length ≤ 1000 := by omega
      go_wp2_with fail
      refine (HST.out _ hI.bel).mono ?_
      rintro e w9 ⟨x, k, rfl, hp, hb⟩
      unfold StopPost at hp
      rw [if_pos hgood, if_neg (by rw [List.length_map]; exact hlong)] at hp
      obtain ⟨hx, rfl⟩ := hp
      replace hI := hI.call hb
      have Hx := Lib.hid hx
      have HML := Lib.hid (show ∀ j, (l.map Q3.q)[j]? = (l[j]?).map Q3.q from fun j => List.getElem?_map)
      have hwl : IntKind.i64.wrap ((l.length : Int) - 1) = (l.length : Int) - 1 := by rw [IntKind.wrap_i64]; omega
      obtain ⟨n1, qn1, _, ln1, NG1⟩ := negR w HT.out r1 h1
      obtain ⟨n2, qn2, _, ln2, NG2⟩ := negR w HT.out r2 h2
      obtain ⟨ls, hls⟩ : ∃ ls : List (Nat × TypeId × Array Value), ls = [(w.heap.size + 1 + 1, 27, #[.bool hi.neg, .string hi.num, .string hi.den]), (w.heap.size + 1, 27, #[.bool lo.neg, .string lo.num, .string lo.den]), (w.heap.size, 33, #[.bool r1.neg, .string r1.num, .string r1.den, .bool r2.neg, .string r2.num, .string r2.den])] := ⟨_, rfl⟩
      have Hls := Lib.hid hls
      rw [← hls] at hI
      have hst := Lib.hid (show FtRel w ls r1 r2 (l.map Q3.q) l.length (.int .i64 (-1)) (.int .i64 ((l.length : Int) - 1)) w9 from ⟨l.length, -1, Nat.le_refl _, rfl, rfl, .inl ⟨rfl, fun j hj h => by have := stopAt_lt h; rw [List.length_map] at this; omega⟩, hI⟩)
      have HTC := Lib.hid (fun W hW => touches_any W (.slice A l.length c) l lo hi hold ((HV.out.below hW).more (hW : Below w.heap.size w W).size) (fun x hx => (hl x hx).more (by decide)) (hlo.more (by decide)) (hhi.more (by decide)) hn1000 (tabs w HT.out hW))
      have HMN := Lib.hid (fun W hW => means_any W (.slice A l.length c) l n (B := 1048576) ((HV.out.below hW).more (hW : Below w.heap.size w W).size) hl (by decide) hn hn1000 (tabs w HT.out hW))
      clear hb fx hx hls hI hgood S1 S2 HCK HST hn hlong
      go_wp2_with fail
      go_loopw [18, 19] (fun first i wr => FtRel w ls r1 r2 (l.map Q3.q) l.length first i wr) (fun _ i _ => (intOf i + 1).toNat)
      case atStart => exact hst.out
      case round =>
        clear hst
        obtain ⟨m, f, hm, rfl, rfl, hff, hI⟩ := hrel
        rcases Nat.eq_zero_or_pos m with hm0 | hm0
        · subst hm0
          have hfx : f = x := StopIs.unique hff.stop Hx.out
          subst hfx
          rw [show ((0 : Nat) : Int) - 1 = -1 from rfl]
          have hneg : ¬ (-1 : Int) ≥ 0 := by decide
          rw [Hls.out] at hI
          clear hff
          have fx := hI.facts
          simp only [factsOf, cellsOf, Nat.zero_add, Nat.reduceAdd] at fx
          go_wp2_with fail
          refine (HTC.out _ hI.bel).mono ?_
          rintro e wn ⟨rfl, hb⟩
          replace hI := hI.call hb
          clear hb fx
          go_wp2_with fail
          refine (HMN.out _ hI.bel).mono ?_
          rintro e wn ⟨rfl, hb⟩
          replace hI := hI.call hb
          clear hb
          go_wp2
          go_ret
          exact ⟨rfl, hI.bel⟩
        · obtain ⟨k, rfl⟩ : ∃ k, m = k + 1 := ⟨m - 1, by omega⟩
          have hki : (k : Int) ≥ 0 := by omega
          have hki2 : 0 ≤ (k : Int) ∧ (k : Int) < (l.length : Int) := by omega
          obtain ⟨x1, hx1⟩ : ∃ x, l[k]? = some x := ⟨_, List.getElem?_eq_getElem (by omega)⟩
          obtain ⟨b, o, rfl, hbB, e0, e1, e2⟩ := Rd.quot HRD.out hx1
          have hxo : x1.le 1048576 := hl x1 (List.mem_of_getElem? hx1)
          have hLk : (l.map Q3.q)[k]? = some x1.q := by rw [HML.out, hx1]; rfl
          have E := Lib.hid (fun W (hW : Below w.heap.size w W) => (⟨(hW.cell (p := ⟨b, o + k * 3, none⟩) hbB).trans e0, (hW.cell (p := ⟨b, o + k * 3 + 1, none⟩) hbB).trans e1, (hW.cell (p := ⟨b, o + k * 3 + 2, none⟩) hbB).trans e2⟩ : And _ (And _ _)))
          have hk1 : ((k + 1 : Nat) : Int) - 1 = (k : Int) := by omega
          rw [hk1]
          have BT1 := betweenR w HT.out n1 x1 r1 (ln1.more (by decide)) (hxo.more (by decide)) (h1.more (by decide))
          rw [qn1] at BT1
          have hwk : IntKind.i64.wrap ((k : Int) - 1) = (k : Int) - 1 := by rw [IntKind.wrap_i64]; omega
          have HFF := Lib.hid hff
          clear e0 e1 e2 hff hk1
          rw [Hls.out] at hI
          go_upto_region 18 with (fail)
          go_cut [20] (fun q wx => ∃ jm : Bool, q = .bool jm ∧ (jm = true ↔ ∃ y, 0 < k ∧ (l.map Q3.q)[k - 1]? = some y ∧ r2.q < absQ (x1.q - y)) ∧ In w [(w.heap.size + 1 + 1, 27, #[.bool hi.neg, .string hi.num, .string hi.den]), (w.heap.size + 1, 27, #[.bool lo.neg, .string lo.num, .string lo.den]), (w.heap.size, 33, #[.bool r1.neg, .string r1.num, .string r1.den, .bool r2.neg, .string r2.num, .string r2.den])] wx)
          case first =>
            rcases Nat.eq_zero_or_pos k with hk0 | hk0
            · subst hk0
              refine wp_region_in hI (by kernel_rfl) (by kernel_rfl) ?_
              repeat (first
                | (refine wpSeq_off (by rfl) ?_; try simp only [Act.put, List.setIfInBounds_toArray, List.set_cons_zero, List.set_cons_succ])
                | (refine wpSeq_val (v := ?_) (by rfl) (fun W hS => ?_) ?_
                   rotate_left
                   · (have fx := hS.facts; simp only [factsOf, cellsOf, Nat.zero_add, Nat.reduceAdd] at fx; have fy0 := E.out W hS.bel; clear hS; go_simp; first | done | with_reducible rfl)
                   try simp only [Act.put, List.setIfInBounds_toArray, List.set_cons_zero, List.set_cons_succ]))
              refine wpSeq_nil (fun W hS => ?_)
              go_wp2_with fail
              go_meet
              exact ⟨false, rfl, ⟨(fun h => by cases h), fun ⟨_, h, _⟩ => absurd h (Nat.lt_irrefl 0)⟩, hS⟩
            · obtain ⟨m', rfl⟩ : ∃ m', k = m' + 1 := ⟨k - 1, by omega⟩
              obtain ⟨y1, hy1⟩ : ∃ y, l[m']? = some y := ⟨_, List.getElem?_eq_getElem (by omega)⟩
              obtain ⟨b', o', he, hbB', e0, e1, e2⟩ := Rd.quot HRD.out hy1
              cases he
              have hyo : y1.le 1048576 := hl y1 (List.mem_of_getElem? hy1)
              have hLm : (l.map Q3.q)[m']? = some y1.q := by rw [HML.out, hy1]; rfl
              have E2 := Lib.hid (fun W (hW : Below w.heap.size w W) => (⟨(hW.cell (p := ⟨b, o + m' * 3, none⟩) hbB).trans e0, (hW.cell (p := ⟨b, o + m' * 3 + 1, none⟩) hbB).trans e1, (hW.cell (p := ⟨b, o + m' * 3 + 2, none⟩) hbB).trans e2⟩ : And _ (And _ _)))
              obtain ⟨d, qd, _, ld, SU⟩ := subR w HT.out x1 y1 hxo hyo
              have BT2 := betweenR w HT.out n2 d r2 (ln2.more (by decide)) (ld.more (by decide)) (h2.more (by decide))
              rw [qn2] at BT2
              obtain ⟨jb, hjb⟩ : ∃ jb, jb = btw (-r2.q) d.q r2.q := ⟨_, rfl⟩
              rw [← hjb] at BT2
              have HJ := Lib.hid (show (!jb) = true ↔ ∃ y, 0 < m' + 1 ∧ (l.map Q3.q)[m' + 1 - 1]? = some y ∧ r2.q < absQ (x1.q - y) from by
                rw [hjb, btw_neg, decide_eq_true_iff, qd]
                constructor
                · intro h; exact ⟨y1.q, Nat.succ_pos m', by rw [Nat.add_sub_cancel]; exact hLm, h⟩
                · rintro ⟨y, _, hy, h⟩
                  rw [Nat.add_sub_cancel, hLm] at hy
                  cases hy; exact h)
              have hmw : IntKind.i64.wrap (m' : Int) = (m' : Int) := by rw [IntKind.wrap_i64]; omega
              have hm1 : 0 ≤ (m' : Int) ∧ (m' : Int) < (l.length : Int) := by omega
              have hm2 : (0 : Int) < ((m' + 1 : Nat) : Int) := by omega
              have hm3 : ((m' + 1 : Nat) : Int) - 1 = (m' : Int) := by omega
              have hm4 : (m' : Int) + 1 < (l.length : Int) := by omega
              have hm5 : (0 : Int) ≤ (m' : Int) + 1 := by omega
              clear e0 e1 e2 hjb qd hLm hy1 hwk
              refine wp_region_in hI (by kernel_rfl) (by kernel_rfl) ?_
              repeat (first
                | (refine wpSeq_off (by rfl) ?_; try simp only [Act.put, List.setIfInBounds_toArray, List.set_cons_zero, List.set_cons_succ])
                | (refine wpSeq_val (v := ?_) (by rfl) (fun W hS => ?_) ?_
                   rotate_left
                   · (have fx := hS.facts; simp only [factsOf, cellsOf, Nat.zero_add, Nat.reduceAdd] at fx; have fy0 := E.out W hS.bel; clear hS; go_simp; first | done | with_reducible rfl)
                   try simp only [Act.put, List.setIfInBounds_toArray, List.set_cons_zero, List.set_cons_succ]))
              refine wpSeq_call (v := .agg #[.bool n2.neg, .string n2.num, .string n2.den]) (by rfl) (fun W hS => ?_) (fun W hS => (NG2.out W hS.bel)) ?_
              · (clear hS; go_simp; done)
              try simp only [Act.put, List.setIfInBounds_toArray, List.set_cons_zero, List.set_cons_succ]
              repeat (first
                | (refine wpSeq_off (by rfl) ?_; try simp only [Act.put, List.setIfInBounds_toArray, List.set_cons_zero, List.set_cons_succ])
                | (refine wpSeq_val (v := ?_) (by rfl) (fun W hS => ?_) ?_
                   rotate_left
                   · (have fx := hS.facts; simp only [factsOf, cellsOf, Nat.zero_add, Nat.reduceAdd] at fx; have fy0 := E.out W hS.bel; have fy1 := E2.out W hS.bel; clear hS; go_simp; first | done | with_reducible rfl)
                   try simp only [Act.put, List.setIfInBounds_toArray, List.set_cons_zero, List.set_cons_succ]))
              refine wpSeq_call (v := .agg #[.bool d.neg, .string d.num, .string d.den]) (by rfl) (fun W hS => ?_) (fun W hS => (SU.out W hS.bel)) ?_
              · (clear hS; go_simp; done)
              try simp only [Act.put, List.setIfInBounds_toArray, List.set_cons_zero, List.set_cons_succ]
              repeat (first
                | (refine wpSeq_off (by rfl) ?_; try simp only [Act.put, List.setIfInBounds_toArray, List.set_cons_zero, List.set_cons_succ])
                | (refine wpSeq_val (v := ?_) (by rfl) (fun W hS => ?_) ?_
                   rotate_left
                   · (have fx := hS.facts; simp only [factsOf, cellsOf, Nat.zero_add, Nat.reduceAdd] at fx; clear hS; go_simp; first | done | with_reducible rfl)
                   try simp only [Act.put, List.setIfInBounds_toArray, List.set_cons_zero, List.set_cons_succ]))
              refine wpSeq_call (v := .bool jb) (by rfl) (fun W hS => ?_) (fun W hS => (BT2.out W hS.bel)) ?_
              · (clear hS; go_simp; done)
              try simp only [Act.put, List.setIfInBounds_toArray, List.set_cons_zero, List.set_cons_succ]
              repeat (first
                | (refine wpSeq_off (by rfl) ?_; try simp only [Act.put, List.setIfInBounds_toArray, List.set_cons_zero, List.set_cons_succ])
                | (refine wpSeq_val (v := ?_) (by rfl) (fun W hS => ?_) ?_
                   rotate_left
                   · (have fx := hS.facts; simp only [factsOf, cellsOf, Nat.zero_add, Nat.reduceAdd] at fx; clear hS; go_simp; first | done | with_reducible rfl)
                   try simp only [Act.put, List.setIfInBounds_toArray, List.set_cons_zero, List.set_cons_succ]))
              refine wpSeq_nil (fun W hS => ?_)
              go_wp2_with fail
              go_meet
              exact ⟨!jb, rfl, HJ.out, hS⟩
          case rest =>
            obtain ⟨jm, rfl, hjm, hK⟩ := hcut
            clear hI
            have HYES := Lib.hid (show stopAt r1.q r2.q (l.map Q3.q) k → ∀ W, In w [(w.heap.size + 1 + 1, 27, #[.bool hi.neg, .string hi.num, .string hi.den]), (w.heap.size + 1, 27, #[.bool lo.neg, .string lo.num, .string lo.den]), (w.heap.size, 33, #[.bool r1.neg, .string r1.num, .string r1.den, .bool r2.neg, .string r2.num, .string r2.den])] W → FtRel w ls r1 r2 (l.map Q3.q) l.length (.int .i64 (k : Int)) (.int .i64 ((k : Int) - 1)) W from fun hs W hW => ⟨k, k, by omega, rfl, rfl, .yes hs, by rw [Hls.out]; exact hW⟩)
            have HNO := Lib.hid (show ¬ stopAt r1.q r2.q (l.map Q3.q) k → ∀ W, In w [(w.heap.size + 1 + 1, 27, #[.bool hi.neg, .string hi.num, .string hi.den]), (w.heap.size + 1, 27, #[.bool lo.neg, .string lo.num, .string lo.den]), (w.heap.size, 33, #[.bool r1.neg, .string r1.num, .string r1.den, .bool r2.neg, .string r2.num, .string r2.den])] W → FtRel w ls r1 r2 (l.map Q3.q) l.length (.int .i64 f) (.int .i64 ((k : Int) - 1)) W from fun hs W hW => ⟨k, f, by omega, rfl, rfl, HFF.out.no hs, by rw [Hls.out]; exact hW⟩)
            have HJM := Lib.hid hjm
            have HLK := Lib.hid hLk
            cases jm with
            | true =>
              have hs : stopAt r1.q r2.q (l.map Q3.q) k := by
                obtain ⟨y, h0, h1, h2⟩ := hjm.mp rfl
                exact ⟨x1.q, hLk, .inr ⟨y, h0, h1, h2⟩⟩
              have HX0 := Lib.hid (HYES.out hs)
              clear hjm hLk hs
              go_upto_region 19 with (fail)
              refine wp_region_in hK (by kernel_rfl) (by kernel_rfl) ?_
              repeat (first
                | (refine wpSeq_off (by rfl) ?_; try simp only [Act.put, List.setIfInBounds_toArray, List.set_cons_zero, List.set_cons_succ])
                | (refine wpSeq_val (v := ?_) (by rfl) (fun W hS => ?_) ?_
                   rotate_left
                   · (have fx := hS.facts; simp only [factsOf, cellsOf, Nat.zero_add, Nat.reduceAdd] at fx; clear hS; go_simp; first | done | with_reducible rfl)
                   try simp only [Act.put, List.setIfInBounds_toArray, List.set_cons_zero, List.set_cons_succ]))
              refine wpSeq_nil (fun W hS => ?_)
              have HX := Lib.hid (HX0.out _ hS)
              clear hS hK
              go_wp2_with fail
              go_roundw
              case rel => exact HX.out
              case measure => simp [intOf]
            | false =>
              obtain ⟨lb, hlb⟩ : ∃ lb, lb = btw (-r1.q) x1.q r1.q := ⟨_, rfl⟩
              rw [← hlb] at BT1
              have hdec : stopAt r1.q r2.q (l.map Q3.q) k ↔ lb = false := by
                have h3 : (!lb) = decide (r1.q < absQ x1.q) := by rw [hlb, btw_neg]
                constructor
                · rintro ⟨x', hx', h | ⟨y, h0, h1, h2⟩⟩
                  · rw [hLk] at hx'; cases hx'
                    rw [decide_eq_true h] at h3
                    simpa using h3
                  · rw [hLk] at hx'; cases hx'
                    have := hjm.mpr ⟨y, h0, h1, h2⟩
                    cases this
                · intro h
                  rw [h] at h3
                  exact ⟨x1.q, hLk, .inl (of_decide_eq_true h3.symm)⟩
              have HD := Lib.hid hdec
              clear hjm hLk hlb hdec
              go_upto_region 19 with (fail)
              refine wp_region_in hK (by kernel_rfl) (by kernel_rfl) ?_
              repeat (first
                | (refine wpSeq_off (by rfl) ?_; try simp only [Act.put, List.setIfInBounds_toArray, List.set_cons_zero, List.set_cons_succ])
                | (refine wpSeq_val (v := ?_) (by rfl) (fun W hS => ?_) ?_
                   rotate_left
                   · (have fx := hS.facts; simp only [factsOf, cellsOf, Nat.zero_add, Nat.reduceAdd] at fx; clear hS; go_simp; first | done | with_reducible rfl)
                   try simp only [Act.put, List.setIfInBounds_toArray, List.set_cons_zero, List.set_cons_succ]))
              refine wpSeq_call (v := .agg #[.bool n1.neg, .string n1.num, .string n1.den]) (by rfl) (fun W hS => ?_) (fun W hS => (NG1.out W hS.bel)) ?_
              · (clear hS; go_simp; done)
              try simp only [Act.put, List.setIfInBounds_toArray, List.set_cons_zero, List.set_cons_succ]
              repeat (first
                | (refine wpSeq_off (by rfl) ?_; try simp only [Act.put, List.setIfInBounds_toArray, List.set_cons_zero, List.set_cons_succ])
                | (refine wpSeq_val (v := ?_) (by rfl) (fun W hS => ?_) ?_
                   rotate_left
                   · (have fx := hS.facts; simp only [factsOf, cellsOf, Nat.zero_add, Nat.reduceAdd] at fx; have fy0 := E.out W hS.bel; clear hS; go_simp; first | done | with_reducible rfl)
                   try simp only [Act.put, List.setIfInBounds_toArray, List.set_cons_zero, List.set_cons_succ]))
              refine wpSeq_call (v := .bool lb) (by rfl) (fun W hS => ?_) (fun W hS => (BT1.out W hS.bel)) ?_
              · (clear hS; go_simp; done)
              try simp only [Act.put, List.setIfInBounds_toArray, List.set_cons_zero, List.set_cons_succ]
              repeat (first
                | (refine wpSeq_off (by rfl) ?_; try simp only [Act.put, List.setIfInBounds_toArray, List.set_cons_zero, List.set_cons_succ])
                | (refine wpSeq_val (v := ?_) (by rfl) (fun W hS => ?_) ?_
                   rotate_left
                   · (have fx := hS.facts; simp only [factsOf, cellsOf, Nat.zero_add, Nat.reduceAdd] at fx; clear hS; go_simp; first | done | with_reducible rfl)
                   try simp only [Act.put, List.setIfInBounds_toArray, List.set_cons_zero, List.set_cons_succ]))
              refine wpSeq_nil (fun W hS => ?_)
              clear hK
              cases lb with
              | false =>
                have HX := Lib.hid (HYES.out (HD.out.mpr rfl) _ hS)
                clear hS
                go_wp2_with fail
                go_roundw
                case rel => exact HX.out
                case measure => simp [intOf]
              | true =>
                have HX := Lib.hid (HNO.out (fun h => by have := HD.out.mp h; cases this) _ hS)
                clear hS
                go_wp2_with fail
                go_roundw
                case rel => exact HX.out
                case measure => simp [intOf]
  · have HSB := Lib.hid (fun W hW => (HST.out W hW).mono (R' := fun e w' => e = .returned (.tuple #[.int .i64 0, .int .i64 1]) ∧ Below W.heap.size W w') (by
      rintro e w' ⟨x, k, rfl, hp, hb⟩
      unfold StopPost at hp
      rw [if_neg hgood] at hp
      obtain ⟨rfl, rfl⟩ := hp
      exact ⟨rfl, hb⟩))
    rw [show ruleE r1.q r2.q = 1 from if_neg hgood] at HCK
    by_cases g1 : c1 < 1
    · clear p1 p2
      go_wp2_with fail
      refine (S1.out _ hI.bel).mono ?_
      rintro e wn ⟨rfl, hb⟩
      replace hI := hI.call hb
      clear hb fx
      have fx := hI.facts
      simp only [factsOf, cellsOf, Nat.zero_add, Nat.reduceAdd] at fx
      go_wp2_with fail
      refine (HCK.out _ hI.bel).mono ?_
      rintro e wn ⟨rfl, hb⟩
      replace hI := hI.call hb
      clear hb fx
      have fx := hI.facts
      simp only [factsOf, cellsOf, Nat.zero_add, Nat.reduceAdd] at fx
      go_wp2_with fail
      refine (HSB.out _ hI.bel).mono ?_
      rintro e wn ⟨rfl, hb⟩
      replace hI := hI.call hb
      clear hb fx
      have fx := hI.facts
      simp only [factsOf, cellsOf, Nat.zero_add, Nat.reduceAdd] at fx
      clear fx
      go_wp2
      go_ret
      exact ⟨rfl, hI.bel⟩
    · have g2 : c2 < 1 := by
        rcases Int.lt_or_le c2 1 with h | h
        · exact h
        · exact absurd ⟨p1.mp (by omega), p2.mp (by omega)⟩ hgood
      clear p1 p2
      go_wp2_with fail
      refine (S1.out _ hI.bel).mono ?_
      rintro e wn ⟨rfl, hb⟩
      replace hI := hI.call hb
      clear hb fx
      have fx := hI.facts
      simp only [factsOf, cellsOf, Nat.zero_add, Nat.reduceAdd] at fx
      go_wp2_with fail
      refine (S2.out _ hI.bel).mono ?_
      rintro e wn ⟨rfl, hb⟩
      replace hI := hI.call hb
      clear hb fx
      have fx := hI.facts
      simp only [factsOf, cellsOf, Nat.zero_add, Nat.reduceAdd] at fx
      go_wp2_with fail
      refine (HCK.out _ hI.bel).mono ?_
      rintro e wn ⟨rfl, hb⟩
      replace hI := hI.call hb
      clear hb fx
      have fx := hI.facts
      simp only [factsOf, cellsOf, Nat.zero_add, Nat.reduceAdd] at fx
      go_wp2_with fail
      refine (HSB.out _ hI.bel).mono ?_
      rintro e wn ⟨rfl, hb⟩
      replace hI := hI.call hb
      clear hb fx
      have fx := hI.facts
      simp only [factsOf, cellsOf, Nat.zero_add, Nat.reduceAdd] at fx
      clear fx
      go_wp2
      go_ret
      exact ⟨rfl, hI.bel⟩
end Go.Proofs.YthmgcbpmfipfiaaDoor.feelTells
