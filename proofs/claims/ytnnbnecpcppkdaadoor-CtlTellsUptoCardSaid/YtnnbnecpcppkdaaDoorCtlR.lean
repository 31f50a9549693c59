/- A controller without a track, or asked with a wrong state; Clear. Conditions: those typed. -/
import Derived.Test.YtnnbnecpcppkdaaDoorCtlP
namespace Go.Proofs.YtnnbnecpcppkdaaDoor
open Go.RowKit Go.Gy
set_option linter.unusedVariables false
set_option linter.unusedSimpArgs false
set_option maxRecDepth 100000 in
set_option maxHeartbeats 8000000 in
theorem wish_none (w : World) (p : Nat) (a : Ar) (vt : Value) (tick : Int) {Aq : Option Addr} {nq Cq : Nat} (vv : Value) (pw : Bool) (hd : Int) (hC : CtlAt w p a vt) (hn : nq ≠ a.L.length) :
    Calls Tryd.prog 53 #[.pointer (some ⟨p, 0, none⟩), .int .i64 tick, .agg #[.slice Aq nq Cq, vv, .bool pw, .int .i64 hd]] w fun e w' => e = .returned (.slice none 0 0) ∧ Below w.heap.size w w' := by
  obtain ⟨⟨A, N9, C, hva, hNL, _⟩, _⟩ := id hC.2
  have hlen : N9 = a.L.length := by rw [← hNL, Ar.ks_len]
  subst hlen
  have c11 := hC.cell (i := 11) rfl
  rw [hva] at c11
  have hpl : p < w.heap.size := hC.lt
  have EC := Lib.hid (fun W (hW : Below w.heap.size w W) => (⟨(hW.cell (p := ⟨p, 11, none⟩) hpl).trans c11, Nat.lt_of_lt_of_le hpl hW.size⟩ : And _ _))
  obtain ⟨n, hnd⟩ : ∃ n, n = a.L.length := ⟨_, rfl⟩
  rw [← hnd] at EC hn
  have hn1 : ((nq : Int) != (n : Int)) = true := by simp; omega
  have hI := (In.start w).alloc 61 #[.slice Aq nq Cq, vv, .bool pw, .int .i64 hd]
  obtain ⟨g5, hg5⟩ : ∃ g, g = w.heap.size := ⟨_, rfl⟩
  clear hC hNL hva c11 hnd hpl
  go_enter Tryd.func53, Tryd.ntmps53
  go_upto_region 1 with (fail)
  rw [← hg5] at hI ⊢
  clear hg5
  generalize World.alloc _ _ = W1 at hI ⊢
  refine wp_region_in hI (by kernel_rfl) (by kernel_rfl) ?_
  repeat (first
    | (refine wpSeq_off (by rfl) ?_; try simp only [Act.put, List.setIfInBounds_toArray, List.set_cons_zero, List.set_cons_succ])
    | (refine wpSeq_val (v := ?_) (by rfl) (fun W hS => ?_) ?_
       rotate_left
       · (have fx := hS.facts; simp only [factsOf, cellsOf, Nat.zero_add, Nat.reduceAdd] at fx; have fy0 := EC.out W hS.bel; clear hS; go_simp; first | done | with_reducible rfl)
       try simp only [Act.put, List.setIfInBounds_toArray, List.set_cons_zero, List.set_cons_succ]))
  refine wpSeq_nil (fun W hS => ?_)
  have hfin := hS.bel
  clear hI hS
  go_wp2
  go_ret
  exact ⟨rfl, hfin⟩
set_option maxRecDepth 100000 in
set_option maxHeartbeats 8000000 in
theorem late_none (w : World) (hT : TabW w) (p : Nat) (a : Ar) {At : Option Addr} {nt Ct : Nat} (tick : Int) {Aq : Option Addr} {nq Cq : Nat} (vv : Value) (pw : Bool) (hd : Int) (hC : CtlAt w p a (.slice At nt Ct)) (hn : nq ≠ a.L.length ∨ nt = 0) (Z : Q3) (cZ : Z.can) (qZ : Z.q = 0) :
    Calls Tryd.prog 60 #[.pointer (some ⟨p, 0, none⟩), .int .i64 tick, .agg #[.slice Aq nq Cq, vv, .bool pw, .int .i64 hd]] w fun e w' => e = .returned (.agg #[.bool Z.neg, .string Z.num, .string Z.den]) ∧ Below w.heap.size w w' := by
  obtain ⟨⟨A, N9, C, hva, hNL, _⟩, _⟩ := id hC.2
  have hlen : N9 = a.L.length := by rw [← hNL, Ar.ks_len]
  subst hlen
  have c11 := hC.cell (i := 11) rfl
  have c12 := hC.cell (i := 12) rfl
  rw [hva] at c11
  have hpl : p < w.heap.size := hC.lt
  have EC := Lib.hid (fun W (hW : Below w.heap.size w W) => (⟨(hW.cell (p := ⟨p, 11, none⟩) hpl).trans c11, (hW.cell (p := ⟨p, 12, none⟩) hpl).trans c12, Nat.lt_of_lt_of_le hpl hW.size⟩ : And _ (And _ _)))
  obtain ⟨n, hnd⟩ : ∃ n, n = a.L.length := ⟨_, rfl⟩
  rw [← hnd] at EC hn
  have HN := Lib.hid hn
  obtain ⟨z0, q0, cz0, lz0, O0⟩ := ofR w hT 0
  obtain rfl : z0 = Z := cz0.eq cZ (by rw [q0, qZ]; rfl)
  have hI := ((In.start w).alloc 61 #[.slice Aq nq Cq, vv, .bool pw, .int .i64 hd]).alloc 25 #[.bool false, .string { data := #[] }, .string { data := #[] }]
  rw [World.size_alloc] at hI
  clear hC hNL hva c11 c12 hnd hpl hT hn qZ cZ q0 cz0 lz0
  go_enter Tryd.func60, Tryd.ntmps60
  go_upto_region 1 with (fail)
  generalize World.alloc _ _ = W1 at hI ⊢
  go_wp2_with fail
  refine (O0.out _ hI.bel).mono ?_
  rintro e wn ⟨rfl, hb⟩
  replace hI := hI.call hb
  clear hb
  clear O0
  replace hI := hI.alloc 25 #[.bool z0.neg, .string z0.num, .string z0.den]
  obtain ⟨g7, hg7⟩ : ∃ g, g = wn.heap.size := ⟨_, rfl⟩
  go_upto_region 2 with (fail)
  rw [← hg7] at hI ⊢
  clear hg7
  generalize World.alloc _ _ = W2 at hI ⊢
  by_cases hne : nq = n
  · have hn1 : ((nq : Int) != (n : Int)) = false := by simp [hne]
    have hn2 : ((nt : Int) == 0) = true := by
      rcases HN.out with h | h
      · exact absurd hne h
      · simp [h]
    clear hne
    refine wp_region_in hI (by kernel_rfl) (by kernel_rfl) ?_
    repeat (first
      | (refine wpSeq_off (by rfl) ?_; try simp only [Act.put, List.setIfInBounds_toArray, List.set_cons_zero, List.set_cons_succ])
      | (refine wpSeq_val (v := ?_) (by rfl) (fun W hS => ?_) ?_
         rotate_left
         · (have fx := hS.facts; simp only [factsOf, cellsOf, Nat.zero_add, Nat.reduceAdd] at fx; have fy0 := EC.out W hS.bel; clear hS; go_simp; first | done | with_reducible rfl)
         try simp only [Act.put, List.setIfInBounds_toArray, List.set_cons_zero, List.set_cons_succ]))
    refine wpSeq_nil (fun W hS => ?_)
    clear hI
    have hI := hS
    have hS := hI.tail
    have fx := hI.facts
    simp only [factsOf, cellsOf, Nat.zero_add, Nat.reduceAdd] at fx
    clear hI
    have hS0 := hS.take (a := [_])
    have HK := Lib.hid ((hS.all3 (a := []) (.bool z0.neg) (.string z0.num) (.string z0.den)))
    have hfx := hS0.facts
    simp only [factsOf, cellsOf, Nat.zero_add, Nat.reduceAdd] at hfx
    have hfz := fun i => hS0.free (k := 0) (i := i) rfl
    clear hS0 hS
    go_wp2_with fail
    clear hfx hfz
    have hK := HK.out
    clear HK
    generalize World.setCell _ _ _ = W9 at hK ⊢
    refine bodyPost_ret (results_cell_row Tryd.results60 _ _ (w.heap.size + 1 ) 25 _ (0, 0) _ rfl (hK.blkAt (k := 0) rfl) Tryd.underlying25 rfl (by kernel_rfl)) rfl ?_
    exact ⟨rfl, hK.bel⟩
  · have hn1 : ((nq : Int) != (n : Int)) = true := by simp; omega
    clear hne
    refine wp_region_in hI (by kernel_rfl) (by kernel_rfl) ?_
    repeat (first
      | (refine wpSeq_off (by rfl) ?_; try simp only [Act.put, List.setIfInBounds_toArray, List.set_cons_zero, List.set_cons_succ])
      | (refine wpSeq_val (v := ?_) (by rfl) (fun W hS => ?_) ?_
         rotate_left
         · (have fx := hS.facts; simp only [factsOf, cellsOf, Nat.zero_add, Nat.reduceAdd] at fx; have fy0 := EC.out W hS.bel; clear hS; go_simp; first | done | with_reducible rfl)
         try simp only [Act.put, List.setIfInBounds_toArray, List.set_cons_zero, List.set_cons_succ]))
    refine wpSeq_nil (fun W hS => ?_)
    clear hI
    have hI := hS
    have hS := hI.tail
    have fx := hI.facts
    simp only [factsOf, cellsOf, Nat.zero_add, Nat.reduceAdd] at fx
    clear hI
    have hS0 := hS.take (a := [_])
    have HK := Lib.hid ((hS.all3 (a := []) (.bool z0.neg) (.string z0.num) (.string z0.den)))
    have hfx := hS0.facts
    simp only [factsOf, cellsOf, Nat.zero_add, Nat.reduceAdd] at hfx
    have hfz := fun i => hS0.free (k := 0) (i := i) rfl
    clear hS0 hS
    go_wp2_with fail
    clear hfx hfz
    have hK := HK.out
    clear HK
    generalize World.setCell _ _ _ = W9 at hK ⊢
    refine bodyPost_ret (results_cell_row Tryd.results60 _ _ (w.heap.size + 1 ) 25 _ (0, 0) _ rfl (hK.blkAt (k := 0) rfl) Tryd.underlying25 rfl (by kernel_rfl)) rfl ?_
    exact ⟨rfl, hK.bel⟩
theorem clear_ctl (w : World) (p : Nat) (a : Ar) (vt : Value) (hC : CtlAt w p a vt) (hvt : ∃ A n c, vt = .slice A n c) :
    Calls Tryd.prog 57 #[.pointer (some ⟨p, 0, none⟩)] w fun e w' => e = .returned (.tuple #[]) ∧ CtlAt w' p a (.slice none 0 0) ∧ Below p w w' ∧ w.heap.size ≤ w'.heap.size := by
  obtain ⟨At, nt, ct, rfl⟩ := hvt
  have HC := Lib.hid hC
  have hpl : p < w.heap.size := hC.lt
  have hz := hC.1.free 12
  have cx := hC.cell (i := 12) rfl
  have hgr := grown_set w p 12 (.slice none 0 0)
  have HB := Lib.hid ((Below.refl p w).grown hgr (Nat.le_of_lt hpl) (fun k hk => by cases hk; exact Nat.le_refl _))
  have HX := Lib.hid (show CtlAt (w.setCell ⟨p, 12, none⟩ (.slice none 0 0)) p a (.slice none 0 0) from ⟨by
    have h := hC.1.set 12 (.slice none 0 0)
    simpa using h, hC.2.below HB.out⟩)
  clear hC hgr
  go_enter Tryd.func57, Tryd.ntmps57
  go_wp2_with fail
  go_end0
  exact ⟨rfl, HX.out, HB.out, by rw [World.size_setCell]; exact Nat.le_refl _⟩
end Go.Proofs.YtnnbnecpcppkdaaDoor
