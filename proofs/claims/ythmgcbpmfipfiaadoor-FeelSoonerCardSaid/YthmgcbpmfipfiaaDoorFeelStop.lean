/- feel.Stop. Conditions: those typed. -/
import Derived.Test.YthmgcbpmfipfiaaDoorStopPlain
import Derived.Deep.RegionHeld3
import Derived.Test.YthmgcbpmfipfiaaDoorIn
import Derived.Test.YthmgcbpmfipfiaaDoorRq
namespace Go.Proofs.YthmgcbpmfipfiaaDoor
open Go.RowKit Go.Gy
set_option linter.unusedVariables false
def StopPost (lim jump : Rat) (l : List Rat) (x e : Int) : Prop :=
  if 0 < lim ∧ 0 < jump then (if 1000 < l.length then x = 0 ∧ e = 2 else StopIs lim jump l x ∧ e = 0) else x = 0 ∧ e = 1
def StRel (w : World) (r1 r2 : Q3) (l : List Q3) (n : Nat) (i : Value) (wr : World) : Prop := ∃ k : Nat, k ≤ n ∧ i = .int .i64 k ∧ (∀ j, j < k → ¬ stopAt r1.q r2.q (l.map Q3.q) j) ∧ Blk wr w.heap.size 33 #[.bool r1.neg, .string r1.num, .string r1.den, .bool r2.neg, .string r2.num, .string r2.den] ∧ Below w.heap.size w wr
set_option maxRecDepth 100000 in
set_option maxHeartbeats 4000000 in
theorem stop_any (w : World) (r1 r2 : Q3) (h1 : r1.ok) (h2 : r2.ok) (v : Value) (l : List Q3) (hv : SlQ w w.heap.size v l) (hl : ∀ x ∈ l, x.ok) (hT : TabW w) :
    Calls Tryd.prog 22 #[.agg #[.bool r1.neg, .string r1.num, .string r1.den, .bool r2.neg, .string r2.num, .string r2.den], v] w fun e w' => ∃ x k, e = .returned (.tuple #[.int .i64 x, .int .i64 k]) ∧ StopPost r1.q r2.q (l.map Q3.q) x k ∧ Below w.heap.size w w' := by
  have HTW := Lib.hid (fun W hW => TabW.below (w' := W) hT hW)
  have HT := Lib.hid hT
  have HC := Lib.hid (fun W hW => check_any W r1.neg r1.num r1.den r2.neg r2.num r2.den r1.q r2.q rfl rfl (by have := h1.1; omega) (by have := h1.2; omega) (by have := h2.1; omega) (by have := h2.2; omega) (HTW.out W hW))
  obtain ⟨A, n, c, rfl, hln, hnc, hA, hrd⟩ := hv
  have hB : Below w.heap.size w (w.alloc (.cells #[.bool r1.neg, .string r1.num, .string r1.den, .bool r2.neg, .string r2.num, .string r2.den] 33)) := (Below.refl w.heap.size w).alloc (Nat.le_refl _) _
  have kb : Blk (w.alloc (.cells #[.bool r1.neg, .string r1.num, .string r1.den, .bool r2.neg, .string r2.num, .string r2.den] 33)) w.heap.size 33 #[.bool r1.neg, .string r1.num, .string r1.den, .bool r2.neg, .string r2.num, .string r2.den] := Blk.new w _ _
  by_cases hr : 0 < r1.q ∧ 0 < r2.q
  · have hE : ruleE r1.q r2.q = 0 := if_pos hr
    rw [hE] at HC
    by_cases hn : 1000 < n
    · have HP := Lib.hid (show StopPost r1.q r2.q (l.map Q3.q) 0 2 by unfold StopPost; rw [if_pos hr, if_pos (by rw [List.length_map, hln]; exact hn)]; exact ⟨rfl, rfl⟩)
      have hni : (n : Int) > 1000 := by omega
      clear hE hr hrd hnc hA
      go_enter Tryd.func22, Tryd.ntmps22
      go_wp2_with fail
      generalize w.alloc _ = w1 at kb hB ⊢
      refine (HC.out _ hB).mono ?_
      rintro e w2 ⟨rfl, hb⟩
      replace hB := hB.trans (hb.mono hB.size)
      go_wp2
      refine bodyPost_ret (results_tmp2 rfl _ _ _) rfl ?_
      exact ⟨_, _, rfl, HP.out, hB⟩
    · have hni : ¬ (n : Int) > 1000 := by omega
      have HG := Lib.hid (show ∀ x, StopIs r1.q r2.q (l.map Q3.q) x → StopPost r1.q r2.q (l.map Q3.q) x 0 from fun x hx => by unfold StopPost; rw [if_pos hr, if_neg (by rw [List.length_map, hln]; exact hn)]; exact ⟨hx, rfl⟩)
      clear hE hr
      go_enter Tryd.func22, Tryd.ntmps22
      go_wp2_with fail
      generalize w.alloc _ = w1 at kb hB ⊢
      refine (HC.out _ hB).mono ?_
      rintro e w2 ⟨rfl, hb⟩
      replace kb := kb.below hb kb.lt
      replace hB := hB.trans (hb.mono hB.size)
      have hst := Lib.hid (show StRel w r1 r2 l n (.int .i64 0) w2 from ⟨0, Nat.zero_le _, rfl, fun j hj => absurd hj (Nat.not_lt_zero j), kb, hB⟩)
      clear hb kb hB HC
      go_wp2_with fail
      go_loopw [19] (fun i wr => StRel w r1 r2 l n i wr) (fun i _ => n - (intOf i).toNat)
      case atStart => exact hst.out
      case round =>
        obtain ⟨k, hk, rfl, hno, kb, hB⟩ := hrel
        by_cases hkn : k < n
        · have hki : (k : Int) < (n : Int) := by omega
          obtain ⟨x, hx⟩ : ∃ x, l[k]? = some x := ⟨_, List.getElem?_eq_getElem (by omega)⟩
          obtain ⟨b, o, rfl, hbB, e0, e1, e2⟩ := Rd.quot hrd hx
          have hsz := hB.size
          have d0 := (hB.cell (p := ⟨b, o + k * 3, none⟩) hbB).trans e0
          have d1 := (hB.cell (p := ⟨b, o + k * 3 + 1, none⟩) hbB).trans e1
          have d2 := (hB.cell (p := ⟨b, o + k * 3 + 2, none⟩) hbB).trans e2
          have hbn : b < wr.heap.size := by omega
          have hki2 : 0 ≤ (k : Int) ∧ (k : Int) < (n : Int) := by omega
          have HRD := Lib.hid hrd
          clear hrd hst e0 e1 e2
          have hxo : x.le 274877906944 := hl x (List.mem_of_getElem? hx)
          obtain ⟨fa, qa, _, la, A1⟩ := absR w hT x hxo
          obtain ⟨c1, _, p1, _, C1⟩ := cmpR w hT fa r1 la (h1 : r1.le 274877906944)
          rw [qa] at p1
          go_upto_region 9 with (fail)
          go_cut [47] (fun q wx => ∃ bb : Bool, q = .bool bb ∧ (bb = true ↔ stopAt r1.q r2.q (l.map Q3.q) k) ∧ Blk wx w.heap.size 33 #[.bool r1.neg, .string r1.num, .string r1.den, .bool r2.neg, .string r2.num, .string r2.den] ∧ Below w.heap.size w wx)
          case first =>
            have h0 : In w [(w.heap.size, 33, #[.bool r1.neg, .string r1.num, .string r1.den, .bool r2.neg, .string r2.num, .string r2.den])] wr := ⟨hB, by simpa using kb, by simp, by simp⟩
            have hI := h0.alloc 27 #[.bool x.neg, .string x.num, .string x.den]
            have HM := Lib.hid (show ∀ j, (l.map Q3.q)[j]? = (l[j]?).map Q3.q from fun j => List.getElem?_map)
            clear kb hB d0 d1 d2 hT h0
            by_cases g1 : c1 > 0
            · have HB := Lib.hid (show stopAt r1.q r2.q (l.map Q3.q) k from ⟨x.q, by rw [HM.out, hx]; rfl, .inl (p1.mp g1)⟩)
              clear p1
              refine wp_region_in hI (by kernel_rfl) (by kernel_rfl) ?_
              repeat (first
                | (refine wpSeq_off (by rfl) ?_; try simp only [Act.put, List.setIfInBounds_toArray, List.set_cons_zero, List.set_cons_succ])
                | (refine wpSeq_val (v := ?_) (by rfl) (fun W hS => ?_) ?_
                   rotate_left
                   · (have fx := hS.facts; simp only [factsOf, cellsOf, Nat.zero_add, Nat.reduceAdd] at fx; clear hS; go_simp; first | done | with_reducible rfl)
                   try simp only [Act.put, List.setIfInBounds_toArray, List.set_cons_zero, List.set_cons_succ]))
              refine wpSeq_call (v := .agg #[.bool fa.neg, .string fa.num, .string fa.den]) (by rfl) (fun W hS => ?_) (fun W hS => (A1.out W hS.bel)) ?_
              · (clear hS; go_simp; done)
              try simp only [Act.put, List.setIfInBounds_toArray, List.set_cons_zero, List.set_cons_succ]
              repeat (first
                | (refine wpSeq_off (by rfl) ?_; try simp only [Act.put, List.setIfInBounds_toArray, List.set_cons_zero, List.set_cons_succ])
                | (refine wpSeq_val (v := ?_) (by rfl) (fun W hS => ?_) ?_
                   rotate_left
                   · (have fx := hS.facts; simp only [factsOf, cellsOf, Nat.zero_add, Nat.reduceAdd] at fx; clear hS; go_simp; first | done | with_reducible rfl)
                   try simp only [Act.put, List.setIfInBounds_toArray, List.set_cons_zero, List.set_cons_succ]))
              refine wpSeq_call (v := .int .i64 c1) (by rfl) (fun W hS => ?_) (fun W hS => (C1.out W hS.bel)) ?_
              · (clear hS; go_simp; done)
              try simp only [Act.put, List.setIfInBounds_toArray, List.set_cons_zero, List.set_cons_succ]
              repeat (first
                | (refine wpSeq_off (by rfl) ?_; try simp only [Act.put, List.setIfInBounds_toArray, List.set_cons_zero, List.set_cons_succ])
                | (refine wpSeq_val (v := ?_) (by rfl) (fun W hS => ?_) ?_
                   rotate_left
                   · (have fx := hS.facts; simp only [factsOf, cellsOf, Nat.zero_add, Nat.reduceAdd] at fx; clear hS; go_simp; first | done | with_reducible rfl)
                   try simp only [Act.put, List.setIfInBounds_toArray, List.set_cons_zero, List.set_cons_succ]))
              refine wpSeq_nil (fun W hS => ?_)
              go_wp2_with fail
              go_meet
              exact ⟨true, rfl, ⟨fun _ => HB.out, fun _ => rfl⟩, hS.blkAt (k := 1) rfl, hS.bel⟩
            · have P1 := Lib.hid (show ¬ r1.q < absQ x.q from fun h => g1 (p1.mpr h))
              clear p1
              rcases Nat.eq_zero_or_pos k with hk0 | hk0
              · subst hk0
                have HB := Lib.hid (show ¬ stopAt r1.q r2.q (l.map Q3.q) 0 from by
                  rintro ⟨y, hy, h | ⟨z, hz, _⟩⟩
                  · rw [HM.out, hx] at hy
                    cases hy
                    exact P1.out h
                  · exact absurd hz (Nat.lt_irrefl 0))
                refine wp_region_in hI (by kernel_rfl) (by kernel_rfl) ?_
                repeat (first
                  | (refine wpSeq_off (by rfl) ?_; try simp only [Act.put, List.setIfInBounds_toArray, List.set_cons_zero, List.set_cons_succ])
                  | (refine wpSeq_val (v := ?_) (by rfl) (fun W hS => ?_) ?_
                     rotate_left
                     · (have fx := hS.facts; simp only [factsOf, cellsOf, Nat.zero_add, Nat.reduceAdd] at fx; clear hS; go_simp; first | done | with_reducible rfl)
                     try simp only [Act.put, List.setIfInBounds_toArray, List.set_cons_zero, List.set_cons_succ]))
                refine wpSeq_call (v := .agg #[.bool fa.neg, .string fa.num, .string fa.den]) (by rfl) (fun W hS => ?_) (fun W hS => (A1.out W hS.bel)) ?_
                · (clear hS; go_simp; done)
                try simp only [Act.put, List.setIfInBounds_toArray, List.set_cons_zero, List.set_cons_succ]
                repeat (first
                  | (refine wpSeq_off (by rfl) ?_; try simp only [Act.put, List.setIfInBounds_toArray, List.set_cons_zero, List.set_cons_succ])
                  | (refine wpSeq_val (v := ?_) (by rfl) (fun W hS => ?_) ?_
                     rotate_left
                     · (have fx := hS.facts; simp only [factsOf, cellsOf, Nat.zero_add, Nat.reduceAdd] at fx; clear hS; go_simp; first | done | with_reducible rfl)
                     try simp only [Act.put, List.setIfInBounds_toArray, List.set_cons_zero, List.set_cons_succ]))
                refine wpSeq_call (v := .int .i64 c1) (by rfl) (fun W hS => ?_) (fun W hS => (C1.out W hS.bel)) ?_
                · (clear hS; go_simp; done)
                try simp only [Act.put, List.setIfInBounds_toArray, List.set_cons_zero, List.set_cons_succ]
                repeat (first
                  | (refine wpSeq_off (by rfl) ?_; try simp only [Act.put, List.setIfInBounds_toArray, List.set_cons_zero, List.set_cons_succ])
                  | (refine wpSeq_val (v := ?_) (by rfl) (fun W hS => ?_) ?_
                     rotate_left
                     · (have fx := hS.facts; simp only [factsOf, cellsOf, Nat.zero_add, Nat.reduceAdd] at fx; clear hS; go_simp; first | done | with_reducible rfl)
                     try simp only [Act.put, List.setIfInBounds_toArray, List.set_cons_zero, List.set_cons_succ]))
                refine wpSeq_nil (fun W hS => ?_)
                go_wp2_with fail
                go_meet
                exact ⟨false, rfl, ⟨(fun h => by cases h), fun h => absurd h HB.out⟩, hS.blkAt (k := 1) rfl, hS.bel⟩
              · obtain ⟨m, rfl⟩ : ∃ m, k = m + 1 := ⟨k - 1, by omega⟩
                obtain ⟨y, hy⟩ : ∃ y, l[m]? = some y := ⟨_, List.getElem?_eq_getElem (by omega)⟩
                have hyo : y.le 274877906944 := hl y (List.mem_of_getElem? hy)
                obtain ⟨b', o', he, hbB', e0, e1, e2⟩ := Rd.quot HRD.out hy
                cases he
                obtain ⟨fd, qd, _, ld, D1⟩ := subR w HT.out x y hxo hyo
                obtain ⟨fe, qe, _, le, D2⟩ := absR w HT.out fd ld
                obtain ⟨c2, _, p2, _, D3⟩ := cmpR w HT.out fe r2 le (h2 : r2.le 274877906944)
                rw [qe, qd] at p2
                have E := Lib.hid (fun W (hW : Below w.heap.size w W) => (⟨(hW.cell (p := ⟨b, o + m * 3, none⟩) hbB).trans e0, (hW.cell (p := ⟨b, o + m * 3 + 1, none⟩) hbB).trans e1, (hW.cell (p := ⟨b, o + m * 3 + 2, none⟩) hbB).trans e2⟩ : And _ (And _ _)))
                obtain ⟨bb, hbb⟩ : ∃ bb, bb = decide (c2 > 0) := ⟨_, rfl⟩
                have HB := Lib.hid (show bb = true ↔ stopAt r1.q r2.q (l.map Q3.q) (m + 1) from by
                  rw [hbb, decide_eq_true_iff, show (c2 > 0 ↔ r2.q < absQ (x.q - y.q)) from p2]
                  constructor
                  · intro h
                    exact ⟨x.q, by rw [HM.out, hx]; rfl, .inr ⟨y.q, Nat.succ_pos m, by rw [Nat.add_sub_cancel, HM.out, hy]; rfl, h⟩⟩
                  · rintro ⟨x', hx', h | ⟨y', _, hy', h⟩⟩
                    · rw [HM.out, hx] at hx'; cases hx'; exact absurd h P1.out
                    · rw [HM.out, hx] at hx'; cases hx'
                      rw [Nat.add_sub_cancel, HM.out, hy] at hy'; cases hy'; exact h)
                have hw1 : IntKind.i64.wrap (m : Int) = (m : Int) := by rw [IntKind.wrap_i64]; omega
                have hm1 : 0 ≤ (m : Int) ∧ (m : Int) < (n : Int) := by omega
                have hm0 : (0 : Int) < ((m + 1 : Nat) : Int) := by omega
                have hm2 : ((m + 1 : Nat) : Int) - 1 = (m : Int) := by omega
                clear e0 e1 e2 hx hy p2 hxo hyo
                refine wp_region_in hI (by kernel_rfl) (by kernel_rfl) ?_
                repeat (first
                  | (refine wpSeq_off (by rfl) ?_; try simp only [Act.put, List.setIfInBounds_toArray, List.set_cons_zero, List.set_cons_succ])
                  | (refine wpSeq_val (v := ?_) (by rfl) (fun W hS => ?_) ?_
                     rotate_left
                     · (have fx := hS.facts; simp only [factsOf, cellsOf, Nat.zero_add, Nat.reduceAdd] at fx; clear hS; go_simp; first | done | with_reducible rfl)
                     try simp only [Act.put, List.setIfInBounds_toArray, List.set_cons_zero, List.set_cons_succ]))
                refine wpSeq_call (v := .agg #[.bool fa.neg, .string fa.num, .string fa.den]) (by rfl) (fun W hS => ?_) (fun W hS => (A1.out W hS.bel)) ?_
                · (clear hS; go_simp; done)
                try simp only [Act.put, List.setIfInBounds_toArray, List.set_cons_zero, List.set_cons_succ]
                repeat (first
                  | (refine wpSeq_off (by rfl) ?_; try simp only [Act.put, List.setIfInBounds_toArray, List.set_cons_zero, List.set_cons_succ])
                  | (refine wpSeq_val (v := ?_) (by rfl) (fun W hS => ?_) ?_
                     rotate_left
                     · (have fx := hS.facts; simp only [factsOf, cellsOf, Nat.zero_add, Nat.reduceAdd] at fx; clear hS; go_simp; first | done | with_reducible rfl)
                     try simp only [Act.put, List.setIfInBounds_toArray, List.set_cons_zero, List.set_cons_succ]))
                refine wpSeq_call (v := .int .i64 c1) (by rfl) (fun W hS => ?_) (fun W hS => (C1.out W hS.bel)) ?_
                · (clear hS; go_simp; done)
                try simp only [Act.put, List.setIfInBounds_toArray, List.set_cons_zero, List.set_cons_succ]
                repeat (first
                  | (refine wpSeq_off (by rfl) ?_; try simp only [Act.put, List.setIfInBounds_toArray, List.set_cons_zero, List.set_cons_succ])
                  | (refine wpSeq_val (v := ?_) (by rfl) (fun W hS => ?_) ?_
                     rotate_left
                     · (have fx := hS.facts; simp only [factsOf, cellsOf, Nat.zero_add, Nat.reduceAdd] at fx; have fy0 := E.out W hS.bel; clear hS; go_simp; first | done | with_reducible rfl)
                     try simp only [Act.put, List.setIfInBounds_toArray, List.set_cons_zero, List.set_cons_succ]))
                refine wpSeq_call (v := .agg #[.bool fd.neg, .string fd.num, .string fd.den]) (by rfl) (fun W hS => ?_) (fun W hS => (D1.out W hS.bel)) ?_
                · (clear hS; go_simp; done)
                try simp only [Act.put, List.setIfInBounds_toArray, List.set_cons_zero, List.set_cons_succ]
                repeat (first
                  | (refine wpSeq_off (by rfl) ?_; try simp only [Act.put, List.setIfInBounds_toArray, List.set_cons_zero, List.set_cons_succ])
                  | (refine wpSeq_val (v := ?_) (by rfl) (fun W hS => ?_) ?_
                     rotate_left
                     · (have fx := hS.facts; simp only [factsOf, cellsOf, Nat.zero_add, Nat.reduceAdd] at fx; clear hS; go_simp; first | done | with_reducible rfl)
                     try simp only [Act.put, List.setIfInBounds_toArray, List.set_cons_zero, List.set_cons_succ]))
                refine wpSeq_call (v := .agg #[.bool fe.neg, .string fe.num, .string fe.den]) (by rfl) (fun W hS => ?_) (fun W hS => (D2.out W hS.bel)) ?_
                · (clear hS; go_simp; done)
                try simp only [Act.put, List.setIfInBounds_toArray, List.set_cons_zero, List.set_cons_succ]
                repeat (first
                  | (refine wpSeq_off (by rfl) ?_; try simp only [Act.put, List.setIfInBounds_toArray, List.set_cons_zero, List.set_cons_succ])
                  | (refine wpSeq_val (v := ?_) (by rfl) (fun W hS => ?_) ?_
                     rotate_left
                     · (have fx := hS.facts; simp only [factsOf, cellsOf, Nat.zero_add, Nat.reduceAdd] at fx; clear hS; go_simp; first | done | with_reducible rfl)
                     try simp only [Act.put, List.setIfInBounds_toArray, List.set_cons_zero, List.set_cons_succ]))
                refine wpSeq_call (v := .int .i64 c2) (by rfl) (fun W hS => ?_) (fun W hS => (D3.out W hS.bel)) ?_
                · (clear hS; go_simp; done)
                try simp only [Act.put, List.setIfInBounds_toArray, List.set_cons_zero, List.set_cons_succ]
                repeat (first
                  | (refine wpSeq_off (by rfl) ?_; try simp only [Act.put, List.setIfInBounds_toArray, List.set_cons_zero, List.set_cons_succ])
                  | (refine wpSeq_val (v := ?_) (by rfl) (fun W hS => ?_) ?_
                     rotate_left
                     · (have fx := hS.facts; simp only [factsOf, cellsOf, Nat.zero_add, Nat.reduceAdd] at fx; clear hS; go_simp; first | done | with_reducible rfl)
                     try simp only [Act.put, List.setIfInBounds_toArray, List.set_cons_zero, List.set_cons_succ]))
                refine wpSeq_nil (fun W hS => ?_)
                go_wp2_with fail
                go_meet
                exact ⟨bb, by rw [hbb], HB.out, hS.blkAt (k := 1) rfl, hS.bel⟩
          case rest =>
            clear kb hB d0 d1 d2 A1 C1
            obtain ⟨bb, rfl, hbb, kb, hB⟩ := hcut
            cases bb
            · have hns : ¬ stopAt r1.q r2.q (l.map Q3.q) k := fun h => by cases hbb.mpr h
              have HN := Lib.hid (show StRel w r1 r2 l n (.int .i64 ((k : Int) + 1)) wc from ⟨k + 1, hkn, by simp, fun j hj => by
                rcases Nat.lt_or_ge j k with h | h
                · exact hno j h
                · rw [show j = k by omega]; exact hns, kb, hB⟩)
              have hw1 : IntKind.i64.wrap ((k : Int) + 1) = (k : Int) + 1 := by rw [IntKind.wrap_i64]; omega
              clear hbb kb hB hns hno
              go_wp2_with fail
              go_roundw
              case rel => exact HN.out
              case measure => simp [intOf]; omega
            · have HX := Lib.hid (HG.out k (.inl ⟨k, rfl, hbb.mp rfl, hno⟩))
              clear hbb kb hno HG
              go_wp2
              refine bodyPost_ret (results_tmp2 rfl _ _ _) rfl ?_
              exact ⟨_, _, rfl, HX.out, hB⟩
        · have hkn2 : k = n := by omega
          subst hkn2
          have hki : ¬ (k : Int) < (k : Int) := by omega
          have HX := Lib.hid (HG.out (-1) (.inr ⟨rfl, fun j h => hno j (by have := stopAt_lt h; rw [List.length_map, hln] at this; exact this) h⟩))
          clear hno hrd hst HG kb
          go_wp2
          refine bodyPost_ret (results_tmp2 rfl _ _ _) rfl ?_
          exact ⟨_, _, rfl, HX.out, hB⟩
  · have hE : ruleE r1.q r2.q = 1 := if_neg hr
    rw [hE] at HC
    have HP := Lib.hid (show StopPost r1.q r2.q (l.map Q3.q) 0 1 by unfold StopPost; rw [if_neg hr]; exact ⟨rfl, rfl⟩)
    clear hE hr hrd hnc hA
    go_enter Tryd.func22, Tryd.ntmps22
    go_wp2_with fail
    generalize w.alloc _ = w1 at kb hB ⊢
    refine (HC.out _ hB).mono ?_
    rintro e w2 ⟨rfl, hb⟩
    replace hB := hB.trans (hb.mono hB.size)
    go_wp2
    refine bodyPost_ret (results_tmp2 rfl _ _ _) rfl ?_
    exact ⟨_, _, rfl, HP.out, hB⟩
end Go.Proofs.YthmgcbpmfipfiaaDoor
