/- StopFast: the walk. Conditions: those typed. -/
import Derived.Test.YthmgcbpmfipfiaaDoorFastB
import Derived.Test.YthmgcbpmfipfiaaDoorFits
import Derived.Test.YthmgcbpmfipfiaaDoorBraked
import Derived.Test.YthmgcbpmfipfiaaDoorEqQ
namespace Go.Proofs.YthmgcbpmfipfiaaDoor.stopFast
open Go.RowKit Go.Gy
set_option linter.unusedVariables false
theorem wf_i64 {n : Int} (h : wfI .i64 n) : -9223372036854775808 ≤ n ∧ n ≤ 9223372036854775807 := by
  simpa [wfI, Lit.wf, IntKind.min, IntKind.max, IntKind.signed, IntKind.bits] using h
set_option maxRecDepth 100000 in
theorem eql_quot (w : World) (x : Q3) : (binOp .eql 27 (.agg #[.bool x.neg, .string x.num, .string x.den]) (.agg #[.bool x.neg, .string x.num, .string x.den])).run Tryd.prog w = .ok (.bool true) w := by
  have hS : Tryd.prog.underlying 27 = some (.struct (Tryd.prog.fieldsOf 27)) := by kernel_rfl
  have hp : Tryd.prog.stoodInHeld 27 = false := by kernel_rfl
  have u4 := Tryd.underlying4
  have us := Tryd.underlying9
  rw [run_eql_struct, show (10000 : Nat) = 9999 + 1 from rfl, run_equalIn_agg w 9999 27 _ _ hS hp]
  simp only [Program.fieldsOf, Tryd.underlying27]
  go_simp
theorem In.second {w W : World} {x y : Nat × TypeId × Array Value} {l : List (Nat × TypeId × Array Value)} (h : In w (x :: y :: l) W) : In w (x :: l) W :=
  ⟨h.bel, fun z hz => h.blk z (by rcases List.mem_cons.1 hz with rfl | hz; exact List.mem_cons_self; exact List.mem_cons_of_mem _ (List.mem_cons_of_mem _ hz)),
    fun z hz => h.new z (by rcases List.mem_cons.1 hz with rfl | hz; exact List.mem_cons_self; exact List.mem_cons_of_mem _ (List.mem_cons_of_mem _ hz)),
    by have := h.apart; simp only [List.map_cons, List.nodup_cons, List.mem_cons, not_or] at this ⊢; exact ⟨this.1.2, this.2.2⟩⟩
theorem fast_braked {x : Q3} {e : Int} (h : FastIs (1 / 10) (-1) 1 1 0 1 x e) : e = 0 ∧ 0 < x.q := by
  have h64 : floorN (1 * ((64 : Int) : Rat)) = 64 := by decide +kernel
  have e64 : floorE (1 * ((64 : Int) : Rat)) = 0 := by decide +kernel
  rcases h with ⟨h, _⟩ | ⟨_, _, _, h, _⟩ | ⟨_, _, _, _, _, he, _, _, a, h0, h1, h2, h3, h4⟩
  · rcases h with ⟨h, _⟩ | h | h
    · exact absurd rfl h
    · exact absurd h (by decide +kernel)
    · exact absurd h (by decide +kernel)
  · rw [h64, e64] at h
    rcases h with h | h
    · exact absurd rfl h
    · exact absurd h (by decide)
  · refine ⟨he, ?_⟩
    rw [h64] at h1 h4
    have ha : a ≠ 0 := by
      rintro rfl
      rcases h4 with h4 | h4
      · exact absurd h4 (by decide)
      · refine h4 ⟨1, .inr (.inr ⟨by decide +kernel, by decide +kernel, rfl, by decide, by decide, by decide +kernel, by decide +kernel⟩), by decide +kernel, by decide +kernel⟩
    rw [h2]
    have h5 : ((0 : Int) : Rat) < (a : Rat) := Rat.intCast_lt_intCast.mpr (by omega)
    have h6 : (a : Rat) / ((64 : Int) : Rat) = a * (1 / 64) := by
      rw [Rat.div_def, show ((64 : Int) : Rat)⁻¹ = 1 / 64 from by decide +kernel]
    rw [h6]
    have h7 : ((0 : Int) : Rat) = 0 := rfl
    grind
theorem sixtyfour (a : Int) : (a : Rat) / ((64 : Int) : Rat) * ((64 : Int) : Rat) = (a : Rat) := Rat.div_mul_cancel (by decide +kernel)
theorem floor_int (a : Int) (h : -6400 ≤ a ∧ a ≤ 6400) : floorN ((a : Rat) / ((64 : Int) : Rat) * ((64 : Int) : Rat)) = a ∧ floorE ((a : Rat) / ((64 : Int) : Rat) * ((64 : Int) : Rat)) = 0 := by
  rw [sixtyfour]
  unfold floorN floorE
  rw [show (a : Rat).floor = a from Rat.floor_intCast a, if_pos (by omega), if_pos (by omega)]
  exact ⟨rfl, rfl⟩
theorem floor_over {s : Rat} (h : 100 < s) : 6400 ≤ (s * ((64 : Int) : Rat)).floor := by
  have h1 := Rat.lt_floor_add_one (s * ((64 : Int) : Rat))
  have h64 : ((64 : Int) : Rat) = 64 := rfl
  have h2 : ((6400 : Int) : Rat) < (((s * ((64 : Int) : Rat)).floor + 1 : Int) : Rat) := by
    refine Std.lt_trans ?_ h1
    have : ((6400 : Int) : Rat) = 6400 := rfl
    rw [this, h64]
    grind
  have := Rat.intCast_lt_intCast.mp h2
  omega
theorem x_le_speed {x s : Rat} {a f : Int} (hx : x = (a : Rat) / ((64 : Int) : Rat)) (h : a ≤ f) (hf : (f : Rat) ≤ s * ((64 : Int) : Rat)) : x ≤ s := by
  have h1 : (a : Rat) ≤ s * ((64 : Int) : Rat) := Rat.le_trans (Rat.intCast_le_intCast.mpr h) hf
  have h2 : x * ((64 : Int) : Rat) = a := by rw [hx]; exact sixtyfour a
  have h64 : ((64 : Int) : Rat) = 64 := rfl
  rw [h64] at h1 h2
  grind
theorem x_ge_zero {x : Rat} {a : Int} (hx : x = (a : Rat) / ((64 : Int) : Rat)) (h : 0 ≤ a) : 0 ≤ x := by
  have h1 : ((0 : Int) : Rat) ≤ (a : Rat) := Rat.intCast_le_intCast.mpr h
  have h2 : x * ((64 : Int) : Rat) = a := by rw [hx]; exact sixtyfour a
  have h64 : ((64 : Int) : Rat) = 64 := rfl
  have h0 : ((0 : Int) : Rat) = 0 := rfl
  rw [h64] at h2
  rw [h0] at h1
  grind
theorem floor_under {s : Rat} (h0 : 0 < s) (h : s ≤ 100) : floorE (s * ((64 : Int) : Rat)) = 0 ∧ 0 ≤ floorN (s * ((64 : Int) : Rat)) ∧ floorN (s * ((64 : Int) : Rat)) ≤ 6400 ∧ ((floorN (s * ((64 : Int) : Rat)) : Int) : Rat) ≤ s * ((64 : Int) : Rat) := by
  have h1 := Rat.lt_floor_add_one (s * ((64 : Int) : Rat))
  have h2 := Rat.floor_le (s * ((64 : Int) : Rat))
  have h64 : ((64 : Int) : Rat) = 64 := rfl
  have h3 : ((s * ((64 : Int) : Rat)).floor : Rat) ≤ ((6400 : Int) : Rat) := by
    refine Rat.le_trans h2 ?_
    have : ((6400 : Int) : Rat) = 6400 := rfl
    rw [this, h64]
    grind
  have h4 : ((0 : Int) : Rat) < (((s * ((64 : Int) : Rat)).floor + 1 : Int) : Rat) := by
    refine Std.lt_trans ?_ h1
    have : ((0 : Int) : Rat) = 0 := rfl
    rw [this, h64]
    grind
  have h5 := Rat.intCast_le_intCast.mp h3
  have h6 := Rat.intCast_lt_intCast.mp h4
  unfold floorN floorE
  rw [if_pos (by omega), if_pos (by omega)]
  exact ⟨rfl, by omega, h5, h2⟩
set_option maxRecDepth 100000 in
set_option maxHeartbeats 8000000 in
theorem walk (vl vq : Value) (way : Int) (w : World) {b0 b1 : Nat} (f0 : LinkArg w vl b0) (f1 : QuotArg w vq b1) (wt : wfI .i64 way) (hT : TabW w) (hk : b0 + b1 ≤ 1048576) :
    Calls Tryd.prog 14 #[vl, vq, .int .i64 way] w fun e w' => e = .returned (.bool true) ∧ Below w.heap.size w w' := by
  obtain ⟨k, rfl, hk0, _⟩ := f0
  obtain ⟨q, rfl, hq⟩ := f1
  replace hk0 : k.le 1048576 := hk0.more (by omega)
  replace hq : q.le 1048576 := hq.more (by omega)
  have hway := wf_i64 wt
  obtain ⟨klen, klo, khi, ksp, kb⟩ := hk0
  have HKL := Lib.hid (show k.le 1048576 from ⟨klen, klo, khi, ksp, kb⟩)
  have HT := Lib.hid hT
  obtain ⟨k0, q0len, q0lo, q0hi, q0sp, q0b, hk0l, q0sh, BR⟩ := brakedR w hT
  obtain ⟨z0, qz0, cz0, l0, O0⟩ := ofR w hT 0
  have HF1 := Lib.hid (fun W hW => fast_any W (tabs w hT hW) k0 z0 1 (N := 1048576) (Lk.le.more hk0l (by decide)) (l0.more (by decide)) (by decide) (by decide))
  have HF2 := Lib.hid (fun W hW => fast_any W (tabs w hT hW) k q way (N := 1048576) ⟨klen, klo, khi, ksp, kb⟩ hq (by decide) hway)
  rw [q0lo, q0hi, q0sp, q0b, show z0.q = 0 from qz0] at HF1
  have ge := guard_quot
  have hI := (((In.start w).alloc 86 #[.bool k.len.neg, .string k.len.num, .string k.len.den, .bool k.low.neg, .string k.low.num, .string k.low.den, .bool k.high.neg, .string k.high.num, .string k.high.den, .bool k.speed.neg, .string k.speed.num, .string k.speed.den, .bool k.brake.neg, .string k.brake.num, .string k.brake.den, k.shape]).alloc 27 #[.bool q.neg, .string q.num, .string q.den]).alloc 3 #[.int .i64 way]
  rw [World.size_alloc, World.size_alloc] at hI
  obtain ⟨ls, hls⟩ : ∃ ls : List (Nat × TypeId × Array Value), ls = [(w.heap.size + 1 + 1, 3, #[.int .i64 way]), (w.heap.size + 1, 27, #[.bool q.neg, .string q.num, .string q.den]), (w.heap.size, 86, #[.bool k.len.neg, .string k.len.num, .string k.len.den, .bool k.low.neg, .string k.low.num, .string k.low.den, .bool k.high.neg, .string k.high.num, .string k.high.den, .bool k.speed.neg, .string k.speed.num, .string k.speed.den, .bool k.brake.neg, .string k.brake.num, .string k.brake.den, k.shape])] := ⟨_, rfl⟩
  have Hls := Lib.hid hls
  clear hls hT wt q0len q0sh q0lo q0hi q0sp q0b hk0l qz0 cz0 klen hk
  go_enter Tryd.func14, Tryd.ntmps14
  go_upto_region 1 with (fail)
  generalize World.alloc _ _ = W1 at hI ⊢
  go_wp2_with fail
  refine (BR.out _ hI.bel).mono ?_
  rintro e wn ⟨rfl, hb⟩
  replace hI := hI.call hb
  clear hb
  go_wp2_with fail
  refine (O0.out _ hI.bel).mono ?_
  rintro e wn ⟨rfl, hb⟩
  replace hI := hI.call hb
  clear hb
  go_wp2_with fail
  refine (HF1.out _ hI.bel).mono ?_
  rintro r wn ⟨x1, e1, rfl, hF1, hb⟩
  replace hI := hI.call hb
  obtain ⟨rfl, hx1⟩ := fast_braked hF1
  have hx1l : x1.le 1048576 := by
    rcases hF1 with ⟨_, _, h⟩ | ⟨_, _, _, _, _, h⟩ | ⟨_, _, _, _, _, _, _, h, _⟩
    · exact absurd h (by decide)
    · exact absurd h (by decide)
    · exact h.more (by decide)
  obtain ⟨c1, _, pc1, _, SG1⟩ := signR w HT.out x1 hx1l
  have hc1 : ¬ c1 ≤ 0 := by have := pc1.mpr hx1; omega
  clear hb hF1 HF1 hx1 pc1 BR
  replace hI := hI.alloc 27 #[.bool x1.neg, .string x1.num, .string x1.den]
  obtain ⟨g7, hg7⟩ : ∃ g, g = wn.heap.size := ⟨_, rfl⟩
  go_upto_region 2 with (fail)
  rw [← hg7] at hI ⊢
  generalize World.alloc _ _ = W2 at hI ⊢
  clear hg7
  have fx := hI.facts
  simp only [factsOf, cellsOf, Nat.zero_add, Nat.reduceAdd] at fx
  go_wp2_with fail
  refine (SG1.out _ hI.bel).mono ?_
  rintro e wn ⟨rfl, hb⟩
  replace hI := hI.call hb
  clear hb
  clear fx
  have fx := hI.facts
  simp only [factsOf, cellsOf, Nat.zero_add, Nat.reduceAdd] at fx
  go_wp2_with fail
  refine (HF2.out _ hI.bel).mono ?_
  rintro r wn ⟨x, e, rfl, hF, hb⟩
  have HF := Lib.hid hF
  replace hI := hI.call hb
  clear hb fx hF HF2 SG1 hc1
  replace hI := hI.alloc 27 #[.bool x.neg, .string x.num, .string x.den]
  obtain ⟨g9, hg9⟩ : ∃ g, g = wn.heap.size := ⟨_, rfl⟩
  go_upto_region 5 with (fail)
  rw [← hg9] at hI ⊢
  generalize World.alloc _ _ = W3 at hI ⊢
  clear hg9
  have hI : In w ((g9, 27, #[.bool x.neg, .string x.num, .string x.den]) :: ls) W3 := by rw [Hls.out]; exact In.second hI
  obtain ⟨cb, _, pb, _, SB⟩ := signR w HT.out k.brake kb
  obtain ⟨cs, _, ps, _, SS⟩ := signR w HT.out k.speed ksp
  have hW : ∃ bad : Bool, (bad = true ↔ ((way ≠ 1 ∧ way ≠ -1) ∨ k.brake.q ≤ 0 ∨ k.speed.q ≤ 0)) ∧ ((bad = true ∧ way ≠ 1 ∧ way ≠ -1) ∨ ((way = 1 ∨ way = -1) ∧ bad = true ∧ cb ≤ 0) ∨ ((way = 1 ∨ way = -1) ∧ bad = true ∧ ¬ cb ≤ 0 ∧ cs ≤ 0) ∨ ((way = 1 ∨ way = -1) ∧ bad = false ∧ ¬ cb ≤ 0 ∧ ¬ cs ≤ 0)) := by
    have e1 : cb ≤ 0 ↔ k.brake.q ≤ 0 := by rw [← Rat.not_lt, ← pb]; omega
    have e2 : cs ≤ 0 ↔ k.speed.q ≤ 0 := by rw [← Rat.not_lt, ← ps]; omega
    by_cases hw : way = 1 ∨ way = -1
    · by_cases h1 : cb ≤ 0
      · exact ⟨true, by simp [e1.mp h1], .inr (.inl ⟨hw, rfl, h1⟩)⟩
      · by_cases h2 : cs ≤ 0
        · exact ⟨true, by simp [e2.mp h2], .inr (.inr (.inl ⟨hw, rfl, h1, h2⟩))⟩
        · refine ⟨false, ⟨(fun h => by cases h), fun h => ?_⟩, .inr (.inr (.inr ⟨hw, rfl, h1, h2⟩))⟩
          rcases h with h | h | h
          · omega
          · exact absurd (e1.mpr h) h1
          · exact absurd (e2.mpr h) h2
    · exact ⟨true, ⟨fun _ => .inl (by omega), fun _ => rfl⟩, .inl ⟨rfl, by omega, by omega⟩⟩
  obtain ⟨bad, hbad, hW⟩ := hW
  have HBAD := Lib.hid hbad
  have HW := Lib.hid hW
  clear pb ps hbad hW
  go_cut [40] (fun c wx => c = .bool bad ∧ In w ((g9, 27, #[.bool x.neg, .string x.num, .string x.den]) :: ls) wx)
  case first =>
    as_aux_lemma =>
      rw [Hls.out] at hI
      rcases HW.out with ⟨rfl, h1, h2⟩ | ⟨hw, rfl, h1⟩ | ⟨hw, rfl, h1, h2⟩ | ⟨hw, rfl, h1, h2⟩
      · have g1 : (way != 1) = true := by simpa using h1
        have g2 : (way != -1) = true := by simpa using h2
        refine wp_region_in_plain_all hI ?_
        repeat (first
          | (refine wpSeq_off (by rfl) ?_; try simp only [Act.put, List.setIfInBounds_toArray, List.set_cons_zero, List.set_cons_succ])
          | (refine wpSeq_val (v := ?_) (by rfl) (fun W hS => ?_) ?_
             rotate_left
             · (have fx := hS.facts; simp only [factsOf, cellsOf, Nat.zero_add, Nat.reduceAdd] at fx; clear hS; go_simp; first | done | with_reducible rfl)
             try simp only [Act.put, List.setIfInBounds_toArray, List.set_cons_zero, List.set_cons_succ]))
        refine wpSeq_nil (fun W hS => ?_)
        go_wp2
        go_meet
        exact ⟨rfl, by rw [Hls.out]; exact hS⟩
      · rcases hw with rfl | rfl
        all_goals
          refine wp_region_in_plain_all hI ?_
          repeat (first
            | (refine wpSeq_off (by rfl) ?_; try simp only [Act.put, List.setIfInBounds_toArray, List.set_cons_zero, List.set_cons_succ])
            | (refine wpSeq_val (v := ?_) (by rfl) (fun W hS => ?_) ?_
               rotate_left
               · (have fx := hS.facts; simp only [factsOf, cellsOf, Nat.zero_add, Nat.reduceAdd] at fx; clear hS; go_simp; first | done | with_reducible rfl)
               try simp only [Act.put, List.setIfInBounds_toArray, List.set_cons_zero, List.set_cons_succ]))
          refine wpSeq_call (v := .int .i64 cb) (by rfl) (fun W hS => ?_) (fun W hS => (SB.out W hS.bel)) ?_
          · (clear hS; go_simp; done)
          try simp only [Act.put, List.setIfInBounds_toArray, List.set_cons_zero, List.set_cons_succ]
          repeat (first
            | (refine wpSeq_off (by rfl) ?_; try simp only [Act.put, List.setIfInBounds_toArray, List.set_cons_zero, List.set_cons_succ])
            | (refine wpSeq_val (v := ?_) (by rfl) (fun W hS => ?_) ?_
               rotate_left
               · (have fx := hS.facts; simp only [factsOf, cellsOf, Nat.zero_add, Nat.reduceAdd] at fx; clear hS; go_simp; first | done | with_reducible rfl)
               try simp only [Act.put, List.setIfInBounds_toArray, List.set_cons_zero, List.set_cons_succ]))
          refine wpSeq_nil (fun W hS => ?_)
          go_wp2
          go_meet
          exact ⟨rfl, by rw [Hls.out]; exact hS⟩
      · rcases hw with rfl | rfl
        all_goals
          refine wp_region_in_plain_all hI ?_
          repeat (first
            | (refine wpSeq_off (by rfl) ?_; try simp only [Act.put, List.setIfInBounds_toArray, List.set_cons_zero, List.set_cons_succ])
            | (refine wpSeq_val (v := ?_) (by rfl) (fun W hS => ?_) ?_
               rotate_left
               · (have fx := hS.facts; simp only [factsOf, cellsOf, Nat.zero_add, Nat.reduceAdd] at fx; clear hS; go_simp; first | done | with_reducible rfl)
               try simp only [Act.put, List.setIfInBounds_toArray, List.set_cons_zero, List.set_cons_succ]))
          refine wpSeq_call (v := .int .i64 cb) (by rfl) (fun W hS => ?_) (fun W hS => (SB.out W hS.bel)) ?_
          · (clear hS; go_simp; done)
          try simp only [Act.put, List.setIfInBounds_toArray, List.set_cons_zero, List.set_cons_succ]
          repeat (first
            | (refine wpSeq_off (by rfl) ?_; try simp only [Act.put, List.setIfInBounds_toArray, List.set_cons_zero, List.set_cons_succ])
            | (refine wpSeq_val (v := ?_) (by rfl) (fun W hS => ?_) ?_
               rotate_left
               · (have fx := hS.facts; simp only [factsOf, cellsOf, Nat.zero_add, Nat.reduceAdd] at fx; clear hS; go_simp; first | done | with_reducible rfl)
               try simp only [Act.put, List.setIfInBounds_toArray, List.set_cons_zero, List.set_cons_succ]))
          refine wpSeq_call (v := .int .i64 cs) (by rfl) (fun W hS => ?_) (fun W hS => (SS.out W hS.bel)) ?_
          · (clear hS; go_simp; done)
          try simp only [Act.put, List.setIfInBounds_toArray, List.set_cons_zero, List.set_cons_succ]
          repeat (first
            | (refine wpSeq_off (by rfl) ?_; try simp only [Act.put, List.setIfInBounds_toArray, List.set_cons_zero, List.set_cons_succ])
            | (refine wpSeq_val (v := ?_) (by rfl) (fun W hS => ?_) ?_
               rotate_left
               · (have fx := hS.facts; simp only [factsOf, cellsOf, Nat.zero_add, Nat.reduceAdd] at fx; clear hS; go_simp; first | done | with_reducible rfl)
               try simp only [Act.put, List.setIfInBounds_toArray, List.set_cons_zero, List.set_cons_succ]))
          refine wpSeq_nil (fun W hS => ?_)
          go_wp2
          go_meet
          exact ⟨rfl, by rw [Hls.out]; exact hS⟩
      · rcases hw with rfl | rfl
        all_goals
          refine wp_region_in_plain_all hI ?_
          repeat (first
            | (refine wpSeq_off (by rfl) ?_; try simp only [Act.put, List.setIfInBounds_toArray, List.set_cons_zero, List.set_cons_succ])
            | (refine wpSeq_val (v := ?_) (by rfl) (fun W hS => ?_) ?_
               rotate_left
               · (have fx := hS.facts; simp only [factsOf, cellsOf, Nat.zero_add, Nat.reduceAdd] at fx; clear hS; go_simp; first | done | with_reducible rfl)
               try simp only [Act.put, List.setIfInBounds_toArray, List.set_cons_zero, List.set_cons_succ]))
          refine wpSeq_call (v := .int .i64 cb) (by rfl) (fun W hS => ?_) (fun W hS => (SB.out W hS.bel)) ?_
          · (clear hS; go_simp; done)
          try simp only [Act.put, List.setIfInBounds_toArray, List.set_cons_zero, List.set_cons_succ]
          repeat (first
            | (refine wpSeq_off (by rfl) ?_; try simp only [Act.put, List.setIfInBounds_toArray, List.set_cons_zero, List.set_cons_succ])
            | (refine wpSeq_val (v := ?_) (by rfl) (fun W hS => ?_) ?_
               rotate_left
               · (have fx := hS.facts; simp only [factsOf, cellsOf, Nat.zero_add, Nat.reduceAdd] at fx; clear hS; go_simp; first | done | with_reducible rfl)
               try simp only [Act.put, List.setIfInBounds_toArray, List.set_cons_zero, List.set_cons_succ]))
          refine wpSeq_call (v := .int .i64 cs) (by rfl) (fun W hS => ?_) (fun W hS => (SS.out W hS.bel)) ?_
          · (clear hS; go_simp; done)
          try simp only [Act.put, List.setIfInBounds_toArray, List.set_cons_zero, List.set_cons_succ]
          repeat (first
            | (refine wpSeq_off (by rfl) ?_; try simp only [Act.put, List.setIfInBounds_toArray, List.set_cons_zero, List.set_cons_succ])
            | (refine wpSeq_val (v := ?_) (by rfl) (fun W hS => ?_) ?_
               rotate_left
               · (have fx := hS.facts; simp only [factsOf, cellsOf, Nat.zero_add, Nat.reduceAdd] at fx; clear hS; go_simp; first | done | with_reducible rfl)
               try simp only [Act.put, List.setIfInBounds_toArray, List.set_cons_zero, List.set_cons_succ]))
          refine wpSeq_nil (fun W hS => ?_)
          go_wp2
          go_meet
          exact ⟨rfl, by rw [Hls.out]; exact hS⟩
  case rest =>
    clear hI HW SB SS
    obtain ⟨rfl, hI⟩ := hcut
    rw [Hls.out] at hI
    cases bad with
    | true =>
      as_aux_lemma =>
        have hb1 := HBAD.out.mp rfl
        obtain ⟨rfl, rfl⟩ : x = nilQ3 ∧ e = 1 := by
          rcases HF.out with ⟨_, h1, h2⟩ | ⟨h1, h2, h3, _⟩ | ⟨h1, h2, h3, _⟩
          · exact ⟨h1, h2⟩
          · rcases hb1 with h | h | h
            · omega
            · exact absurd h2 (Rat.not_lt.mpr h)
            · exact absurd h3 (Rat.not_lt.mpr h)
          · rcases hb1 with h | h | h
            · omega
            · exact absurd h2 (Rat.not_lt.mpr h)
            · exact absurd h3 (Rat.not_lt.mpr h)
        have hn1 := fun W => eql_quot W nilQ3
        simp only [nilQ3] at hI hn1
        clear hb1 HF
        go_upto_region 6 with (fail)
        refine wp_region_in_plain_all hI ?_
        repeat (first
          | (refine wpSeq_off (by rfl) ?_; try simp only [Act.put, List.setIfInBounds_toArray, List.set_cons_zero, List.set_cons_succ])
          | (refine wpSeq_val (v := ?_) (by rfl) (fun W hS => ?_) ?_
             rotate_left
             · (have fx := hS.facts; simp only [factsOf, cellsOf, Nat.zero_add, Nat.reduceAdd] at fx; clear hS; go_simp; first | done | with_reducible rfl)
             try simp only [Act.put, List.setIfInBounds_toArray, List.set_cons_zero, List.set_cons_succ]))
        refine wpSeq_nil (fun W hS => ?_)
        go_wp2
        go_ret
        exact ⟨rfl, hS.bel⟩
    | false =>
      have hgood : (way = 1 ∨ way = -1) ∧ 0 < k.brake.q ∧ 0 < k.speed.q := by
        have h1 : ¬ ((way ≠ 1 ∧ way ≠ -1) ∨ k.brake.q ≤ 0 ∨ k.speed.q ≤ 0) := fun h => by have := HBAD.out.mpr h; cases this
        refine ⟨by omega, Rat.not_le.mp fun h => h1 (.inr (.inl h)), Rat.not_le.mp fun h => h1 (.inr (.inr h))⟩
      have HG := Lib.hid hgood
      obtain ⟨zh, qh, _, lh, OH⟩ := ofR w HT.out 100
      obtain ⟨c, _, pc, _, CM⟩ := cmpR w HT.out k.speed zh ksp lh
      have hc : c > 0 ↔ 100 < k.speed.q := by rw [show c > 0 ↔ zh.q < k.speed.q from pc, show zh.q = 100 from qh]
      obtain ⟨z64, q64, _, l64, O64⟩ := ofR w HT.out 64
      obtain ⟨m, qm, _, lm, MU⟩ := mulR w HT.out k.speed z64 ksp l64
      obtain ⟨f, ef, hf, he, FL⟩ := floorR w HT.out m lm
      rw [qm, q64] at hf he
      have HC := Lib.hid hc
      have HFN := Lib.hid hf
      have HFE := Lib.hid he
      clear qm hf he hgood hc pc qh
      go_upto_region 7 with (fail)
      by_cases hbig : c > 0
      ·
        as_aux_lemma =>
          refine wp_region_in hI (by kernel_rfl) (by kernel_rfl) ?_
          repeat (first
            | (refine wpSeq_off (by rfl) ?_; try simp only [Act.put, List.setIfInBounds_toArray, List.set_cons_zero, List.set_cons_succ])
            | (refine wpSeq_val (v := ?_) (by rfl) (fun W hS => ?_) ?_
               rotate_left
               · (have fx := hS.facts; simp only [factsOf, cellsOf, Nat.zero_add, Nat.reduceAdd] at fx; clear hS; go_simp; first | done | with_reducible rfl)
               try simp only [Act.put, List.setIfInBounds_toArray, List.set_cons_zero, List.set_cons_succ]))
          refine wpSeq_call (v := .agg #[.bool zh.neg, .string zh.num, .string zh.den]) (by rfl) (fun W hS => ?_) (fun W hS => (OH.out W hS.bel)) ?_
          · (clear hS; go_simp; done)
          try simp only [Act.put, List.setIfInBounds_toArray, List.set_cons_zero, List.set_cons_succ]
          repeat (first
            | (refine wpSeq_off (by rfl) ?_; try simp only [Act.put, List.setIfInBounds_toArray, List.set_cons_zero, List.set_cons_succ])
            | (refine wpSeq_val (v := ?_) (by rfl) (fun W hS => ?_) ?_
               rotate_left
               · (have fx := hS.facts; simp only [factsOf, cellsOf, Nat.zero_add, Nat.reduceAdd] at fx; clear hS; go_simp; first | done | with_reducible rfl)
               try simp only [Act.put, List.setIfInBounds_toArray, List.set_cons_zero, List.set_cons_succ]))
          refine wpSeq_call (v := .int .i64 c) (by rfl) (fun W hS => ?_) (fun W hS => (CM.out W hS.bel)) ?_
          · (clear hS; go_simp; done)
          try simp only [Act.put, List.setIfInBounds_toArray, List.set_cons_zero, List.set_cons_succ]
          repeat (first
            | (refine wpSeq_off (by rfl) ?_; try simp only [Act.put, List.setIfInBounds_toArray, List.set_cons_zero, List.set_cons_succ])
            | (refine wpSeq_val (v := ?_) (by rfl) (fun W hS => ?_) ?_
               rotate_left
               · (have fx := hS.facts; simp only [factsOf, cellsOf, Nat.zero_add, Nat.reduceAdd] at fx; clear hS; go_simp; first | done | with_reducible rfl)
               try simp only [Act.put, List.setIfInBounds_toArray, List.set_cons_zero, List.set_cons_succ]))
          refine wpSeq_nil (fun W hS => ?_)
          clear hI OH CM
          replace hI := hS
          clear hS
          go_upto_region 8 with (fail)
          refine wp_region_in hI (by kernel_rfl) (by kernel_rfl) ?_
          repeat (first
            | (refine wpSeq_off (by rfl) ?_; try simp only [Act.put, List.setIfInBounds_toArray, List.set_cons_zero, List.set_cons_succ])
            | (refine wpSeq_val (v := ?_) (by rfl) (fun W hS => ?_) ?_
               rotate_left
               · (have fx := hS.facts; simp only [factsOf, cellsOf, Nat.zero_add, Nat.reduceAdd] at fx; clear hS; go_simp; first | done | with_reducible rfl)
               try simp only [Act.put, List.setIfInBounds_toArray, List.set_cons_zero, List.set_cons_succ]))
          refine wpSeq_call (v := .agg #[.bool z64.neg, .string z64.num, .string z64.den]) (by rfl) (fun W hS => ?_) (fun W hS => (O64.out W hS.bel)) ?_
          · (clear hS; go_simp; done)
          try simp only [Act.put, List.setIfInBounds_toArray, List.set_cons_zero, List.set_cons_succ]
          repeat (first
            | (refine wpSeq_off (by rfl) ?_; try simp only [Act.put, List.setIfInBounds_toArray, List.set_cons_zero, List.set_cons_succ])
            | (refine wpSeq_val (v := ?_) (by rfl) (fun W hS => ?_) ?_
               rotate_left
               · (have fx := hS.facts; simp only [factsOf, cellsOf, Nat.zero_add, Nat.reduceAdd] at fx; clear hS; go_simp; first | done | with_reducible rfl)
               try simp only [Act.put, List.setIfInBounds_toArray, List.set_cons_zero, List.set_cons_succ]))
          refine wpSeq_call (v := .agg #[.bool m.neg, .string m.num, .string m.den]) (by rfl) (fun W hS => ?_) (fun W hS => (MU.out W hS.bel)) ?_
          · (clear hS; go_simp; done)
          try simp only [Act.put, List.setIfInBounds_toArray, List.set_cons_zero, List.set_cons_succ]
          repeat (first
            | (refine wpSeq_off (by rfl) ?_; try simp only [Act.put, List.setIfInBounds_toArray, List.set_cons_zero, List.set_cons_succ])
            | (refine wpSeq_val (v := ?_) (by rfl) (fun W hS => ?_) ?_
               rotate_left
               · (have fx := hS.facts; simp only [factsOf, cellsOf, Nat.zero_add, Nat.reduceAdd] at fx; clear hS; go_simp; first | done | with_reducible rfl)
               try simp only [Act.put, List.setIfInBounds_toArray, List.set_cons_zero, List.set_cons_succ]))
          refine wpSeq_call (v := .tuple #[.int .i64 f, .int .i64 ef]) (by rfl) (fun W hS => ?_) (fun W hS => (FL.out W hS.bel)) ?_
          · (clear hS; go_simp; done)
          try simp only [Act.put, List.setIfInBounds_toArray, List.set_cons_zero, List.set_cons_succ]
          repeat (first
            | (refine wpSeq_off (by rfl) ?_; try simp only [Act.put, List.setIfInBounds_toArray, List.set_cons_zero, List.set_cons_succ])
            | (refine wpSeq_val (v := ?_) (by rfl) (fun W hS => ?_) ?_
               rotate_left
               · (have fx := hS.facts; simp only [factsOf, cellsOf, Nat.zero_add, Nat.reduceAdd] at fx; clear hS; go_simp; first | done | with_reducible rfl)
               try simp only [Act.put, List.setIfInBounds_toArray, List.set_cons_zero, List.set_cons_succ]))
          refine wpSeq_nil (fun W hS => ?_)
          clear hI O64 MU FL
          replace hI := hS
          clear hS
          have hover := floor_over (HC.out.mp hbig)
          have hways : (ef = 0 ∧ f = 6400 ∧ e = 0) ∨ (ef = 2 ∧ e = 2 ∧ x = nilQ3) ∨ (ef = 0 ∧ f ≠ 6400 ∧ f > 6400 ∧ e = 2 ∧ x = nilQ3) := by
            have h1 := HFN.out
            have h2 := HFE.out
            have hfe : (floorE (k.speed.q * ((64 : Int) : Rat)) = 0 ∧ floorN (k.speed.q * ((64 : Int) : Rat)) = (k.speed.q * ((64 : Int) : Rat)).floor) ∨ floorE (k.speed.q * ((64 : Int) : Rat)) = 2 := by
              unfold floorE floorN
              split
              · exact .inl ⟨rfl, rfl⟩
              · exact .inr rfl
            rcases HF.out with ⟨h3, _⟩ | ⟨_, _, _, h4, h5, h6⟩ | ⟨_, _, _, h4, h5, h6, _⟩
            · rcases h3 with h | h | h
              · have := HG.out.1; omega
              · exact absurd HG.out.2.1 (Rat.not_lt.mpr h)
              · exact absurd HG.out.2.2 (Rat.not_lt.mpr h)
            · rcases hfe with ⟨g1, g2⟩ | g1
              · rcases h4 with h4 | h4
                · exact absurd g1 h4
                · exact .inr (.inr ⟨by omega, by omega, by omega, h6, h5⟩)
              · exact .inr (.inl ⟨by omega, h6, h5⟩)
            · rcases hfe with ⟨g1, g2⟩ | g1
              · exact .inl ⟨by omega, by omega, h6⟩
              · omega
          have hn1 := fun W => eql_quot W nilQ3
          clear HF hover
          go_upto_region 9 with (fail)
          rcases hways with ⟨rfl, rfl, rfl⟩ | ⟨rfl, rfl, rfl⟩ | ⟨rfl, h1, h2, rfl, rfl⟩
          · refine wp_region_in_plain_all hI ?_
            repeat (first
              | (refine wpSeq_off (by rfl) ?_; try simp only [Act.put, List.setIfInBounds_toArray, List.set_cons_zero, List.set_cons_succ])
              | (refine wpSeq_val (v := ?_) (by rfl) (fun W hS => ?_) ?_
                 rotate_left
                 · (have fx := hS.facts; simp only [factsOf, cellsOf, Nat.zero_add, Nat.reduceAdd] at fx; clear hS; go_simp; first | done | with_reducible rfl)
                 try simp only [Act.put, List.setIfInBounds_toArray, List.set_cons_zero, List.set_cons_succ]))
            refine wpSeq_nil (fun W hS => ?_)
            go_wp2
            go_ret
            exact ⟨rfl, hS.bel⟩
          · simp only [nilQ3] at hI hn1
            refine wp_region_in_plain_all hI ?_
            repeat (first
              | (refine wpSeq_off (by rfl) ?_; try simp only [Act.put, List.setIfInBounds_toArray, List.set_cons_zero, List.set_cons_succ])
              | (refine wpSeq_val (v := ?_) (by rfl) (fun W hS => ?_) ?_
                 rotate_left
                 · (have fx := hS.facts; simp only [factsOf, cellsOf, Nat.zero_add, Nat.reduceAdd] at fx; clear hS; go_simp; first | done | with_reducible rfl)
                 try simp only [Act.put, List.setIfInBounds_toArray, List.set_cons_zero, List.set_cons_succ]))
            refine wpSeq_nil (fun W hS => ?_)
            go_wp2
            go_ret
            exact ⟨rfl, hS.bel⟩
          · have h3 : (f == 6400) = false := by simpa using h1
            simp only [nilQ3] at hI hn1
            refine wp_region_in_plain_all hI ?_
            repeat (first
              | (refine wpSeq_off (by rfl) ?_; try simp only [Act.put, List.setIfInBounds_toArray, List.set_cons_zero, List.set_cons_succ])
              | (refine wpSeq_val (v := ?_) (by rfl) (fun W hS => ?_) ?_
                 rotate_left
                 · (have fx := hS.facts; simp only [factsOf, cellsOf, Nat.zero_add, Nat.reduceAdd] at fx; clear hS; go_simp; first | done | with_reducible rfl)
                 try simp only [Act.put, List.setIfInBounds_toArray, List.set_cons_zero, List.set_cons_succ]))
            refine wpSeq_nil (fun W hS => ?_)
            go_wp2
            go_ret
            exact ⟨rfl, hS.bel⟩
      ·
        as_aux_lemma =>
          have hsp : k.speed.q ≤ 100 := Rat.not_lt.mp fun h => hbig (HC.out.mpr h)
          obtain ⟨u1, u2, u3, u4⟩ := floor_under HG.out.2.2 hsp
          have hef : ef = 0 := by have := HFE.out; omega
          subst hef
          obtain ⟨rfl, hxc, hxl, a, ha0, haf, hxq, hfa, hfb⟩ : e = 0 ∧ x.can ∧ x.le 16 ∧ ∃ a : Int, 0 ≤ a ∧ a ≤ f ∧ x.q = (a : Rat) / ((64 : Int) : Rat) ∧ (a = 0 ∨ FitP k.brake.q k.low.q k.high.q q.q (((a * way : Int) : Rat) / ((64 : Int) : Rat))) ∧
              (a = f ∨ ¬ FitP k.brake.q k.low.q k.high.q q.q ((((a + 1) * way : Int) : Rat) / ((64 : Int) : Rat))) := by
            rcases HF.out with ⟨h3, _⟩ | ⟨_, _, _, h4, _⟩ | ⟨_, _, _, _, _, h6, h7, h8, h9⟩
            · rcases h3 with h | h | h
              · have := HG.out.1; omega
              · exact absurd HG.out.2.1 (Rat.not_lt.mpr h)
              · exact absurd HG.out.2.2 (Rat.not_lt.mpr h)
            · rcases h4 with h4 | h4
              · exact absurd u1 h4
              · omega
            · rw [← HFN.out] at h9
              exact ⟨h6, h7, h8, h9⟩
          rw [← HFN.out] at u3 u4
          have hxs : x.q ≤ k.speed.q := x_le_speed hxq haf u4
          have hx0 : 0 ≤ x.q := x_ge_zero hxq ha0
          have HXQ := Lib.hid hxq
          have HXC := Lib.hid hxc
          have HFA := Lib.hid hfa
          have HFB := Lib.hid hfb
          obtain ⟨zo, qo, _, lo, OO⟩ := ofR w HT.out 0
          have BT1 := betweenR w HT.out zo x k.speed (lo.more (by decide)) (hxl.more (by decide)) (ksp.more (by decide))
          have hb1 : btw zo.q x.q k.speed.q = true := by
            unfold btw
            rw [show zo.q = 0 from qo, decide_eq_true hx0, decide_eq_true hxs]; rfl
          rw [hb1] at BT1
          obtain ⟨q', qq', cq', lq', GD⟩ := goodR w HT.out q hq
          have BT2 := betweenR w HT.out k.low q' k.high (klo.more (by decide)) (lq'.more (by decide)) (khi.more (by decide))
          rw [qq'] at BT2
          obtain ⟨inn, hin⟩ : ∃ b : Bool, b = btw k.low.q q.q k.high.q := ⟨_, rfl⟩
          rw [← hin] at BT2
          have HIN := Lib.hid hin
          clear hxq hxc hfa hfb hb1 hin hxs hx0 qo qq' cq' HF u1 u2 u4 hsp
          refine wp_region_in hI (by kernel_rfl) (by kernel_rfl) ?_
          repeat (first
            | (refine wpSeq_off (by rfl) ?_; try simp only [Act.put, List.setIfInBounds_toArray, List.set_cons_zero, List.set_cons_succ])
            | (refine wpSeq_val (v := ?_) (by rfl) (fun W hS => ?_) ?_
               rotate_left
               · (have fx := hS.facts; simp only [factsOf, cellsOf, Nat.zero_add, Nat.reduceAdd] at fx; clear hS; go_simp; first | done | with_reducible rfl)
               try simp only [Act.put, List.setIfInBounds_toArray, List.set_cons_zero, List.set_cons_succ]))
          refine wpSeq_call (v := .agg #[.bool zh.neg, .string zh.num, .string zh.den]) (by rfl) (fun W hS => ?_) (fun W hS => (OH.out W hS.bel)) ?_
          · (clear hS; go_simp; done)
          try simp only [Act.put, List.setIfInBounds_toArray, List.set_cons_zero, List.set_cons_succ]
          repeat (first
            | (refine wpSeq_off (by rfl) ?_; try simp only [Act.put, List.setIfInBounds_toArray, List.set_cons_zero, List.set_cons_succ])
            | (refine wpSeq_val (v := ?_) (by rfl) (fun W hS => ?_) ?_
               rotate_left
               · (have fx := hS.facts; simp only [factsOf, cellsOf, Nat.zero_add, Nat.reduceAdd] at fx; clear hS; go_simp; first | done | with_reducible rfl)
               try simp only [Act.put, List.setIfInBounds_toArray, List.set_cons_zero, List.set_cons_succ]))
          refine wpSeq_call (v := .int .i64 c) (by rfl) (fun W hS => ?_) (fun W hS => (CM.out W hS.bel)) ?_
          · (clear hS; go_simp; done)
          try simp only [Act.put, List.setIfInBounds_toArray, List.set_cons_zero, List.set_cons_succ]
          repeat (first
            | (refine wpSeq_off (by rfl) ?_; try simp only [Act.put, List.setIfInBounds_toArray, List.set_cons_zero, List.set_cons_succ])
            | (refine wpSeq_val (v := ?_) (by rfl) (fun W hS => ?_) ?_
               rotate_left
               · (have fx := hS.facts; simp only [factsOf, cellsOf, Nat.zero_add, Nat.reduceAdd] at fx; clear hS; go_simp; first | done | with_reducible rfl)
               try simp only [Act.put, List.setIfInBounds_toArray, List.set_cons_zero, List.set_cons_succ]))
          refine wpSeq_nil (fun W hS => ?_)
          clear hI OH CM
          replace hI := hS
          clear hS
          go_upto_region 13 with (fail)
          refine wp_region_in hI (by kernel_rfl) (by kernel_rfl) ?_
          repeat (first
            | (refine wpSeq_off (by rfl) ?_; try simp only [Act.put, List.setIfInBounds_toArray, List.set_cons_zero, List.set_cons_succ])
            | (refine wpSeq_val (v := ?_) (by rfl) (fun W hS => ?_) ?_
               rotate_left
               · (have fx := hS.facts; simp only [factsOf, cellsOf, Nat.zero_add, Nat.reduceAdd] at fx; clear hS; go_simp; first | done | with_reducible rfl)
               try simp only [Act.put, List.setIfInBounds_toArray, List.set_cons_zero, List.set_cons_succ]))
          refine wpSeq_call (v := .agg #[.bool z64.neg, .string z64.num, .string z64.den]) (by rfl) (fun W hS => ?_) (fun W hS => (O64.out W hS.bel)) ?_
          · (clear hS; go_simp; done)
          try simp only [Act.put, List.setIfInBounds_toArray, List.set_cons_zero, List.set_cons_succ]
          repeat (first
            | (refine wpSeq_off (by rfl) ?_; try simp only [Act.put, List.setIfInBounds_toArray, List.set_cons_zero, List.set_cons_succ])
            | (refine wpSeq_val (v := ?_) (by rfl) (fun W hS => ?_) ?_
               rotate_left
               · (have fx := hS.facts; simp only [factsOf, cellsOf, Nat.zero_add, Nat.reduceAdd] at fx; clear hS; go_simp; first | done | with_reducible rfl)
               try simp only [Act.put, List.setIfInBounds_toArray, List.set_cons_zero, List.set_cons_succ]))
          refine wpSeq_call (v := .agg #[.bool m.neg, .string m.num, .string m.den]) (by rfl) (fun W hS => ?_) (fun W hS => (MU.out W hS.bel)) ?_
          · (clear hS; go_simp; done)
          try simp only [Act.put, List.setIfInBounds_toArray, List.set_cons_zero, List.set_cons_succ]
          repeat (first
            | (refine wpSeq_off (by rfl) ?_; try simp only [Act.put, List.setIfInBounds_toArray, List.set_cons_zero, List.set_cons_succ])
            | (refine wpSeq_val (v := ?_) (by rfl) (fun W hS => ?_) ?_
               rotate_left
               · (have fx := hS.facts; simp only [factsOf, cellsOf, Nat.zero_add, Nat.reduceAdd] at fx; clear hS; go_simp; first | done | with_reducible rfl)
               try simp only [Act.put, List.setIfInBounds_toArray, List.set_cons_zero, List.set_cons_succ]))
          refine wpSeq_call (v := .tuple #[.int .i64 f, .int .i64 0]) (by rfl) (fun W hS => ?_) (fun W hS => (FL.out W hS.bel)) ?_
          · (clear hS; go_simp; done)
          try simp only [Act.put, List.setIfInBounds_toArray, List.set_cons_zero, List.set_cons_succ]
          repeat (first
            | (refine wpSeq_off (by rfl) ?_; try simp only [Act.put, List.setIfInBounds_toArray, List.set_cons_zero, List.set_cons_succ])
            | (refine wpSeq_val (v := ?_) (by rfl) (fun W hS => ?_) ?_
               rotate_left
               · (have fx := hS.facts; simp only [factsOf, cellsOf, Nat.zero_add, Nat.reduceAdd] at fx; clear hS; go_simp; first | done | with_reducible rfl)
               try simp only [Act.put, List.setIfInBounds_toArray, List.set_cons_zero, List.set_cons_succ]))
          refine wpSeq_nil (fun W hS => ?_)
          clear hI MU FL
          replace hI := hS
          clear hS
          go_upto_region 14 with (fail)
          refine wp_region_in hI (by kernel_rfl) (by kernel_rfl) ?_
          repeat (first
            | (refine wpSeq_off (by rfl) ?_; try simp only [Act.put, List.setIfInBounds_toArray, List.set_cons_zero, List.set_cons_succ])
            | (refine wpSeq_val (v := ?_) (by rfl) (fun W hS => ?_) ?_
               rotate_left
               · (have fx := hS.facts; simp only [factsOf, cellsOf, Nat.zero_add, Nat.reduceAdd] at fx; clear hS; go_simp; first | done | with_reducible rfl)
               try simp only [Act.put, List.setIfInBounds_toArray, List.set_cons_zero, List.set_cons_succ]))
          refine wpSeq_call (v := .agg #[.bool zo.neg, .string zo.num, .string zo.den]) (by rfl) (fun W hS => ?_) (fun W hS => (OO.out W hS.bel)) ?_
          · (clear hS; go_simp; done)
          try simp only [Act.put, List.setIfInBounds_toArray, List.set_cons_zero, List.set_cons_succ]
          repeat (first
            | (refine wpSeq_off (by rfl) ?_; try simp only [Act.put, List.setIfInBounds_toArray, List.set_cons_zero, List.set_cons_succ])
            | (refine wpSeq_val (v := ?_) (by rfl) (fun W hS => ?_) ?_
               rotate_left
               · (have fx := hS.facts; simp only [factsOf, cellsOf, Nat.zero_add, Nat.reduceAdd] at fx; clear hS; go_simp; first | done | with_reducible rfl)
               try simp only [Act.put, List.setIfInBounds_toArray, List.set_cons_zero, List.set_cons_succ]))
          refine wpSeq_call (v := .bool true) (by rfl) (fun W hS => ?_) (fun W hS => (BT1.out W hS.bel)) ?_
          · (clear hS; go_simp; done)
          try simp only [Act.put, List.setIfInBounds_toArray, List.set_cons_zero, List.set_cons_succ]
          repeat (first
            | (refine wpSeq_off (by rfl) ?_; try simp only [Act.put, List.setIfInBounds_toArray, List.set_cons_zero, List.set_cons_succ])
            | (refine wpSeq_val (v := ?_) (by rfl) (fun W hS => ?_) ?_
               rotate_left
               · (have fx := hS.facts; simp only [factsOf, cellsOf, Nat.zero_add, Nat.reduceAdd] at fx; clear hS; go_simp; first | done | with_reducible rfl)
               try simp only [Act.put, List.setIfInBounds_toArray, List.set_cons_zero, List.set_cons_succ]))
          refine wpSeq_nil (fun W hS => ?_)
          clear hI BT1
          replace hI := hS
          clear hS
          go_upto_region 16 with (fail)
          refine wp_region_in hI (by kernel_rfl) (by kernel_rfl) ?_
          repeat (first
            | (refine wpSeq_off (by rfl) ?_; try simp only [Act.put, List.setIfInBounds_toArray, List.set_cons_zero, List.set_cons_succ])
            | (refine wpSeq_val (v := ?_) (by rfl) (fun W hS => ?_) ?_
               rotate_left
               · (have fx := hS.facts; simp only [factsOf, cellsOf, Nat.zero_add, Nat.reduceAdd] at fx; clear hS; go_simp; first | done | with_reducible rfl)
               try simp only [Act.put, List.setIfInBounds_toArray, List.set_cons_zero, List.set_cons_succ]))
          refine wpSeq_call (v := .agg #[.bool q'.neg, .string q'.num, .string q'.den]) (by rfl) (fun W hS => ?_) (fun W hS => (GD.out W hS.bel)) ?_
          · (clear hS; go_simp; done)
          try simp only [Act.put, List.setIfInBounds_toArray, List.set_cons_zero, List.set_cons_succ]
          repeat (first
            | (refine wpSeq_off (by rfl) ?_; try simp only [Act.put, List.setIfInBounds_toArray, List.set_cons_zero, List.set_cons_succ])
            | (refine wpSeq_val (v := ?_) (by rfl) (fun W hS => ?_) ?_
               rotate_left
               · (have fx := hS.facts; simp only [factsOf, cellsOf, Nat.zero_add, Nat.reduceAdd] at fx; clear hS; go_simp; first | done | with_reducible rfl)
               try simp only [Act.put, List.setIfInBounds_toArray, List.set_cons_zero, List.set_cons_succ]))
          refine wpSeq_call (v := .bool inn) (by rfl) (fun W hS => ?_) (fun W hS => (BT2.out W hS.bel)) ?_
          · (clear hS; go_simp; done)
          try simp only [Act.put, List.setIfInBounds_toArray, List.set_cons_zero, List.set_cons_succ]
          repeat (first
            | (refine wpSeq_off (by rfl) ?_; try simp only [Act.put, List.setIfInBounds_toArray, List.set_cons_zero, List.set_cons_succ])
            | (refine wpSeq_val (v := ?_) (by rfl) (fun W hS => ?_) ?_
               rotate_left
               · (have fx := hS.facts; simp only [factsOf, cellsOf, Nat.zero_add, Nat.reduceAdd] at fx; clear hS; go_simp; first | done | with_reducible rfl)
               try simp only [Act.put, List.setIfInBounds_toArray, List.set_cons_zero, List.set_cons_succ]))
          refine wpSeq_nil (fun W hS => ?_)
          clear hI BT2
          replace hI := hS
          clear hS
          cases inn with
          | false =>
            go_wp2
            go_ret
            exact ⟨rfl, hI.bel⟩
          | true =>
            have hinq : k.low.q ≤ q.q ∧ q.q ≤ k.high.q := by
              have h1 := HIN.out.symm
              unfold btw at h1
              rw [Bool.and_eq_true, decide_eq_true_iff, decide_eq_true_iff] at h1
              exact h1
            have hb0 := HG.out.2.1
            obtain ⟨m2, qm2, _, lm2, MU2⟩ := mulR w HT.out x z64 hxl l64
            obtain ⟨f2, e2, hf2, he2, FL2⟩ := floorR w HT.out m2 lm2
            rw [qm2, q64, HXQ.out] at hf2 he2
            obtain ⟨v1, v2⟩ := floor_int a (by omega)
            obtain rfl : f2 = a := hf2.trans v1
            obtain rfl : e2 = 0 := by omega
            obtain ⟨x2, qx2, cx2, _, MK⟩ := makeR w HT.out f2 64 cast64
            obtain rfl : x = x2 := HXC.out.eq cx2 (by rw [HXQ.out, qx2])
            have hn1 := fun W => eql_quot W x
            obtain ⟨r1, hr1, FN1⟩ := fitsFn w HT.out k q way f2 HKL.out hq hb0 HG.out.1 (by omega) (w.heap.size + 1 + 1) (w.heap.size + 1) w.heap.size
            obtain ⟨r2, hr2, FN2⟩ := fitsFn w HT.out k q way (f2 + 1) HKL.out hq hb0 HG.out.1 (by omega) (w.heap.size + 1 + 1) (w.heap.size + 1) w.heap.size
            obtain rfl : r1 = true := hr1.mpr (by
              rcases HFA.out with rfl | h
              · rw [Int.zero_mul, show ((0 : Int) : Rat) / ((64 : Int) : Rat) = 0 from by decide +kernel]
                exact fit_zero hb0 hinq
              · exact h)
            have hway2 : f2 = f ∨ (¬ f2 = f ∧ r2 = false) := by
              by_cases hff : f2 = f
              · exact .inl hff
              · refine .inr ⟨hff, ?_⟩
                cases hr : r2 with
                | false => rfl
                | true => exact absurd (hr2.mp hr) (HFB.out.resolve_left hff)
            have hwp : IntKind.i64.wrap (f2 + 1) = f2 + 1 := by rw [IntKind.wrap_i64]; omega
            clear hr1 hr2 hf2 he2 qm2 lm2 v1 v2 qx2 cx2 hinq hb0 HFA HFB
            go_upto_region 18 with (fail)
            refine wp_region_in hI (by kernel_rfl) (by kernel_rfl) ?_
            repeat (first
              | (refine wpSeq_off (by rfl) ?_; try simp only [Act.put, List.setIfInBounds_toArray, List.set_cons_zero, List.set_cons_succ])
              | (refine wpSeq_val (v := ?_) (by rfl) (fun W hS => ?_) ?_
                 rotate_left
                 · (have fx := hS.facts; simp only [factsOf, cellsOf, Nat.zero_add, Nat.reduceAdd] at fx; clear hS; go_simp; first | done | with_reducible rfl)
                 try simp only [Act.put, List.setIfInBounds_toArray, List.set_cons_zero, List.set_cons_succ]))
            refine wpSeq_call (v := .agg #[.bool z64.neg, .string z64.num, .string z64.den]) (by rfl) (fun W hS => ?_) (fun W hS => (O64.out W hS.bel)) ?_
            · (clear hS; go_simp; done)
            try simp only [Act.put, List.setIfInBounds_toArray, List.set_cons_zero, List.set_cons_succ]
            repeat (first
              | (refine wpSeq_off (by rfl) ?_; try simp only [Act.put, List.setIfInBounds_toArray, List.set_cons_zero, List.set_cons_succ])
              | (refine wpSeq_val (v := ?_) (by rfl) (fun W hS => ?_) ?_
                 rotate_left
                 · (have fx := hS.facts; simp only [factsOf, cellsOf, Nat.zero_add, Nat.reduceAdd] at fx; clear hS; go_simp; first | done | with_reducible rfl)
                 try simp only [Act.put, List.setIfInBounds_toArray, List.set_cons_zero, List.set_cons_succ]))
            refine wpSeq_call (v := .agg #[.bool m2.neg, .string m2.num, .string m2.den]) (by rfl) (fun W hS => ?_) (fun W hS => (MU2.out W hS.bel)) ?_
            · (clear hS; go_simp; done)
            try simp only [Act.put, List.setIfInBounds_toArray, List.set_cons_zero, List.set_cons_succ]
            repeat (first
              | (refine wpSeq_off (by rfl) ?_; try simp only [Act.put, List.setIfInBounds_toArray, List.set_cons_zero, List.set_cons_succ])
              | (refine wpSeq_val (v := ?_) (by rfl) (fun W hS => ?_) ?_
                 rotate_left
                 · (have fx := hS.facts; simp only [factsOf, cellsOf, Nat.zero_add, Nat.reduceAdd] at fx; clear hS; go_simp; first | done | with_reducible rfl)
                 try simp only [Act.put, List.setIfInBounds_toArray, List.set_cons_zero, List.set_cons_succ]))
            refine wpSeq_call (v := .tuple #[.int .i64 f2, .int .i64 0]) (by rfl) (fun W hS => ?_) (fun W hS => (FL2.out W hS.bel)) ?_
            · (clear hS; go_simp; done)
            try simp only [Act.put, List.setIfInBounds_toArray, List.set_cons_zero, List.set_cons_succ]
            repeat (first
              | (refine wpSeq_off (by rfl) ?_; try simp only [Act.put, List.setIfInBounds_toArray, List.set_cons_zero, List.set_cons_succ])
              | (refine wpSeq_val (v := ?_) (by rfl) (fun W hS => ?_) ?_
                 rotate_left
                 · (have fx := hS.facts; simp only [factsOf, cellsOf, Nat.zero_add, Nat.reduceAdd] at fx; clear hS; go_simp; first | done | with_reducible rfl)
                 try simp only [Act.put, List.setIfInBounds_toArray, List.set_cons_zero, List.set_cons_succ]))
            refine wpSeq_nil (fun W hS => ?_)
            clear hI MU2 FL2 O64
            replace hI := hS
            clear hS
            go_wp2_with fail
            refine (MK.out _ hI.bel).mono ?_
            rintro e wn ⟨rfl, hb⟩
            replace hI := hI.call hb
            clear hb
            replace hI := hI.alloc 27 #[.bool x.neg, .string x.num, .string x.den]
            obtain ⟨g18, hg18⟩ : ∃ g, g = wn.heap.size := ⟨_, rfl⟩
            go_upto_region 20 with (fail)
            rw [← hg18] at hI ⊢
            generalize World.alloc _ _ = W4 at hI ⊢
            clear hg18
            have FA : ∀ W, In w [(g18, 27, #[.bool x.neg, .string x.num, .string x.den]), (g9, 27, #[.bool x.neg, .string x.num, .string x.den]), (w.heap.size + 1 + 1, 3, #[.int .i64 way]), (w.heap.size + 1, 27, #[.bool q.neg, .string q.num, .string q.den]), (w.heap.size, 86, #[.bool k.len.neg, .string k.len.num, .string k.len.den, .bool k.low.neg, .string k.low.num, .string k.low.den, .bool k.high.neg, .string k.high.num, .string k.high.den, .bool k.speed.neg, .string k.speed.num, .string k.speed.den, .bool k.brake.neg, .string k.brake.num, .string k.brake.den, k.shape])] W → Calls Tryd.prog 67 #[.int .i64 f2, .pointer (some ⟨w.heap.size + 1 + 1, 0, none⟩), .pointer (some ⟨w.heap.size, 0, none⟩), .pointer (some ⟨w.heap.size + 1, 0, none⟩)] W fun e w' => e = .returned (.bool true) ∧ Below W.heap.size W w' :=
              fun W hS => FN1.out W (In.drop (a := [_, _]) hS)
            have FB : ∀ W, In w [(g18, 27, #[.bool x.neg, .string x.num, .string x.den]), (g9, 27, #[.bool x.neg, .string x.num, .string x.den]), (w.heap.size + 1 + 1, 3, #[.int .i64 way]), (w.heap.size + 1, 27, #[.bool q.neg, .string q.num, .string q.den]), (w.heap.size, 86, #[.bool k.len.neg, .string k.len.num, .string k.len.den, .bool k.low.neg, .string k.low.num, .string k.low.den, .bool k.high.neg, .string k.high.num, .string k.high.den, .bool k.speed.neg, .string k.speed.num, .string k.speed.den, .bool k.brake.neg, .string k.brake.num, .string k.brake.den, k.shape])] W → Calls Tryd.prog 67 #[.int .i64 (f2 + 1), .pointer (some ⟨w.heap.size + 1 + 1, 0, none⟩), .pointer (some ⟨w.heap.size, 0, none⟩), .pointer (some ⟨w.heap.size + 1, 0, none⟩)] W fun e w' => e = .returned (.bool r2) ∧ Below W.heap.size W w' :=
              fun W hS => FN2.out W (In.drop (a := [_, _]) hS)
            have FA := Lib.hid FA
            have FB := Lib.hid FB
            clear FN1 FN2
            rcases hway2 with rfl | ⟨hff, rfl⟩
            · refine wp_region_in_plain_all hI ?_
              repeat (first
                | (refine wpSeq_off (by rfl) ?_; try simp only [Act.put, List.setIfInBounds_toArray, List.set_cons_zero, List.set_cons_succ])
                | (refine wpSeq_val (v := ?_) (by rfl) (fun W hS => ?_) ?_
                   rotate_left
                   · (have fx := hS.facts; simp only [factsOf, cellsOf, Nat.zero_add, Nat.reduceAdd] at fx; clear hS; go_simp; first | done | with_reducible rfl)
                   try simp only [Act.put, List.setIfInBounds_toArray, List.set_cons_zero, List.set_cons_succ]))
              refine wpSeq_call (v := .bool true) (by rfl) (fun W hS => ?_) (fun W hS => (FA.out W hS)) ?_
              · (clear hS; go_simp; done)
              try simp only [Act.put, List.setIfInBounds_toArray, List.set_cons_zero, List.set_cons_succ]
              repeat (first
                | (refine wpSeq_off (by rfl) ?_; try simp only [Act.put, List.setIfInBounds_toArray, List.set_cons_zero, List.set_cons_succ])
                | (refine wpSeq_val (v := ?_) (by rfl) (fun W hS => ?_) ?_
                   rotate_left
                   · (have fx := hS.facts; simp only [factsOf, cellsOf, Nat.zero_add, Nat.reduceAdd] at fx; clear hS; go_simp; first | done | with_reducible rfl)
                   try simp only [Act.put, List.setIfInBounds_toArray, List.set_cons_zero, List.set_cons_succ]))
              refine wpSeq_nil (fun W hS => ?_)
              go_wp2
              go_ret
              exact ⟨rfl, hS.bel⟩
            · have hff1 : (f2 == f) = false := by simpa using hff
              refine wp_region_in_plain_all hI ?_
              repeat (first
                | (refine wpSeq_off (by rfl) ?_; try simp only [Act.put, List.setIfInBounds_toArray, List.set_cons_zero, List.set_cons_succ])
                | (refine wpSeq_val (v := ?_) (by rfl) (fun W hS => ?_) ?_
                   rotate_left
                   · (have fx := hS.facts; simp only [factsOf, cellsOf, Nat.zero_add, Nat.reduceAdd] at fx; clear hS; go_simp; first | done | with_reducible rfl)
                   try simp only [Act.put, List.setIfInBounds_toArray, List.set_cons_zero, List.set_cons_succ]))
              refine wpSeq_call (v := .bool true) (by rfl) (fun W hS => ?_) (fun W hS => (FA.out W hS)) ?_
              · (clear hS; go_simp; done)
              try simp only [Act.put, List.setIfInBounds_toArray, List.set_cons_zero, List.set_cons_succ]
              repeat (first
                | (refine wpSeq_off (by rfl) ?_; try simp only [Act.put, List.setIfInBounds_toArray, List.set_cons_zero, List.set_cons_succ])
                | (refine wpSeq_val (v := ?_) (by rfl) (fun W hS => ?_) ?_
                   rotate_left
                   · (have fx := hS.facts; simp only [factsOf, cellsOf, Nat.zero_add, Nat.reduceAdd] at fx; clear hS; go_simp; first | done | with_reducible rfl)
                   try simp only [Act.put, List.setIfInBounds_toArray, List.set_cons_zero, List.set_cons_succ]))
              refine wpSeq_call (v := .bool false) (by rfl) (fun W hS => ?_) (fun W hS => (FB.out W hS)) ?_
              · (clear hS; go_simp; done)
              try simp only [Act.put, List.setIfInBounds_toArray, List.set_cons_zero, List.set_cons_succ]
              repeat (first
                | (refine wpSeq_off (by rfl) ?_; try simp only [Act.put, List.setIfInBounds_toArray, List.set_cons_zero, List.set_cons_succ])
                | (refine wpSeq_val (v := ?_) (by rfl) (fun W hS => ?_) ?_
                   rotate_left
                   · (have fx := hS.facts; simp only [factsOf, cellsOf, Nat.zero_add, Nat.reduceAdd] at fx; clear hS; go_simp; first | done | with_reducible rfl)
                   try simp only [Act.put, List.setIfInBounds_toArray, List.set_cons_zero, List.set_cons_succ]))
              refine wpSeq_nil (fun W hS => ?_)
              go_wp2
              go_ret
              exact ⟨rfl, hS.bel⟩
end Go.Proofs.YthmgcbpmfipfiaaDoor.stopFast
