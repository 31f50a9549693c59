/- gantref5.Grow by a number that is not negative. Conditions: those typed. -/
import Derived.Test.YthmgcbpmfipfiaaDoorZoneA
namespace Go.Proofs.YthmgcbpmfipfiaaDoor
open Go.RowKit Go.Gy
set_option linter.unusedVariables false
set_option maxRecDepth 100000 in
set_option maxHeartbeats 8000000 in
theorem growR (w : World) (hT : TabW w) (a b c d x : Q3) {N M : Nat} (ha : a.le N) (hb : b.le N) (hc : c.le N) (hd : d.le N) (hx : x.le M) (h0 : 0 ≤ x.q) (hN : 1 ≤ N ∧ N ≤ 274877906944 ∧ 1 ≤ M ∧ M ≤ 274877906944 := by omega) :
    ∃ e f g h : Q3, e.q = a.q - x.q ∧ f.q = b.q - x.q ∧ g.q = c.q + x.q ∧ h.q = d.q + x.q ∧ (e.can ∧ f.can ∧ g.can ∧ h.can) ∧ (e.le (N + M + 1) ∧ f.le (N + M + 1) ∧ g.le (N + M + 1) ∧ h.le (N + M + 1)) ∧
    Hid (∀ W, Below w.heap.size w W → Calls Tryd.prog 52 #[.agg #[.bool a.neg, .string a.num, .string a.den, .bool b.neg, .string b.num, .string b.den, .bool c.neg, .string c.num, .string c.den, .bool d.neg, .string d.num, .string d.den], .agg #[.bool x.neg, .string x.num, .string x.den]] W fun r w' => r = .returned (.agg #[.bool e.neg, .string e.num, .string e.den, .bool f.neg, .string f.num, .string f.den, .bool g.neg, .string g.num, .string g.den, .bool h.neg, .string h.num, .string h.den]) ∧ Below W.heap.size W w') := by
  obtain ⟨cs, _, _, ps, S0⟩ := signR w hT x hx
  have hcs : ¬ cs < 0 := fun h => absurd (ps.mp h) (by grind)
  obtain ⟨m, qm, _, lm, Ng⟩ := negR w hT x hx
  obtain ⟨e, qe, ce, le, Se⟩ := addR w hT a m ha lm
  obtain ⟨f, qf, cf, lf, Sf⟩ := addR w hT b m hb lm
  obtain ⟨g, qg, cg, lg, Sg⟩ := addR w hT c x hc hx
  obtain ⟨h, qh, ch, lh, Sh⟩ := addR w hT d x hd hx
  refine ⟨e, f, g, h, by rw [qe, qm]; grind, by rw [qf, qm]; grind, qg, qh, ⟨ce, cf, cg, ch⟩, ⟨le, lf, lg, lh⟩, Lib.hid fun W0 hW0 => ?_⟩
  replace S0 := up S0 hW0
  replace Ng := up Ng hW0
  replace Se := up Se hW0
  replace Sf := up Sf hW0
  replace Sg := up Sg hW0
  replace Sh := up Sh hW0
  have hI := (((In.start W0).alloc 64 #[.bool a.neg, .string a.num, .string a.den, .bool b.neg, .string b.num, .string b.den, .bool c.neg, .string c.num, .string c.den, .bool d.neg, .string d.num, .string d.den]).alloc 27 #[.bool x.neg, .string x.num, .string x.den]).alloc 64 #[.bool false, .string { data := #[] }, .string { data := #[] }, .bool false, .string { data := #[] }, .string { data := #[] }, .bool false, .string { data := #[] }, .string { data := #[] }, .bool false, .string { data := #[] }, .string { data := #[] }]
  rw [World.size_alloc, World.size_alloc] at hI
  clear qm qe qf qg qh ps hT hW0
  go_enter Tryd.func52, Tryd.ntmps52
  go_wp2_with fail
  generalize World.alloc _ _ = W1 at hI ⊢
  refine (S0.out _ hI.bel).mono ?_
  rintro r w2 ⟨rfl, hb⟩
  replace hI := hI.call hb
  clear hb
  have fx := hI.facts
  simp only [factsOf, cellsOf, Nat.zero_add, Nat.reduceAdd] at fx
  go_wp2_with fail
  refine (Ng.out _ hI.bel).mono ?_
  rintro e wn ⟨rfl, hb⟩
  replace hI := hI.call hb
  clear hb
  clear fx
  replace hI := hI.alloc 27 #[.bool m.neg, .string m.num, .string m.den]
  obtain ⟨gm, hgm⟩ : ∃ gm, gm = wn.heap.size := ⟨_, rfl⟩
  go_wp2_with fail
  rw [← hgm] at hI ⊢
  generalize World.alloc _ _ = W3 at hI ⊢
  clear hgm
  refine wp_region_in_tail 23 hI (by kernel_rfl) (by kernel_rfl) ?_
  simp only [List.take_succ_cons, List.take_zero, List.drop_succ_cons, List.drop_zero]
  repeat (first
    | (refine wpSeq_off (by rfl) ?_; try simp only [Act.put, List.setIfInBounds_toArray, List.set_cons_zero, List.set_cons_succ])
    | (refine wpSeq_val (v := ?_) (by rfl) (fun W hS => ?_) ?_
       rotate_left
       · (have fx := hS.facts; simp only [factsOf, cellsOf, Nat.zero_add, Nat.reduceAdd] at fx; clear hS; go_simp; first | done | with_reducible rfl)
       try simp only [Act.put, List.setIfInBounds_toArray, List.set_cons_zero, List.set_cons_succ]))
  refine wpSeq_call (v := .agg #[.bool e.neg, .string e.num, .string e.den]) (by rfl) (fun W hS => ?_) (fun W hS => (Se.out W hS.bel)) ?_
  · (clear hS; go_simp; done)
  try simp only [Act.put, List.setIfInBounds_toArray, List.set_cons_zero, List.set_cons_succ]
  repeat (first
    | (refine wpSeq_off (by rfl) ?_; try simp only [Act.put, List.setIfInBounds_toArray, List.set_cons_zero, List.set_cons_succ])
    | (refine wpSeq_val (v := ?_) (by rfl) (fun W hS => ?_) ?_
       rotate_left
       · (have fx := hS.facts; simp only [factsOf, cellsOf, Nat.zero_add, Nat.reduceAdd] at fx; clear hS; go_simp; first | done | with_reducible rfl)
       try simp only [Act.put, List.setIfInBounds_toArray, List.set_cons_zero, List.set_cons_succ]))
  refine wpSeq_call (v := .agg #[.bool f.neg, .string f.num, .string f.den]) (by rfl) (fun W hS => ?_) (fun W hS => (Sf.out W hS.bel)) ?_
  · (clear hS; go_simp; done)
  try simp only [Act.put, List.setIfInBounds_toArray, List.set_cons_zero, List.set_cons_succ]
  repeat (first
    | (refine wpSeq_off (by rfl) ?_; try simp only [Act.put, List.setIfInBounds_toArray, List.set_cons_zero, List.set_cons_succ])
    | (refine wpSeq_val (v := ?_) (by rfl) (fun W hS => ?_) ?_
       rotate_left
       · (have fx := hS.facts; simp only [factsOf, cellsOf, Nat.zero_add, Nat.reduceAdd] at fx; clear hS; go_simp; first | done | with_reducible rfl)
       try simp only [Act.put, List.setIfInBounds_toArray, List.set_cons_zero, List.set_cons_succ]))
  refine wpSeq_call (v := .agg #[.bool g.neg, .string g.num, .string g.den]) (by rfl) (fun W hS => ?_) (fun W hS => (Sg.out W hS.bel)) ?_
  · (clear hS; go_simp; done)
  try simp only [Act.put, List.setIfInBounds_toArray, List.set_cons_zero, List.set_cons_succ]
  repeat (first
    | (refine wpSeq_off (by rfl) ?_; try simp only [Act.put, List.setIfInBounds_toArray, List.set_cons_zero, List.set_cons_succ])
    | (refine wpSeq_val (v := ?_) (by rfl) (fun W hS => ?_) ?_
       rotate_left
       · (have fx := hS.facts; simp only [factsOf, cellsOf, Nat.zero_add, Nat.reduceAdd] at fx; clear hS; go_simp; first | done | with_reducible rfl)
       try simp only [Act.put, List.setIfInBounds_toArray, List.set_cons_zero, List.set_cons_succ]))
  refine wpSeq_call (v := .agg #[.bool h.neg, .string h.num, .string h.den]) (by rfl) (fun W hS => ?_) (fun W hS => (Sh.out W hS.bel)) ?_
  · (clear hS; go_simp; done)
  try simp only [Act.put, List.setIfInBounds_toArray, List.set_cons_zero, List.set_cons_succ]
  repeat (first
    | (refine wpSeq_off (by rfl) ?_; try simp only [Act.put, List.setIfInBounds_toArray, List.set_cons_zero, List.set_cons_succ])
    | (refine wpSeq_val (v := ?_) (by rfl) (fun W hS => ?_) ?_
       rotate_left
       · (have fx := hS.facts; simp only [factsOf, cellsOf, Nat.zero_add, Nat.reduceAdd] at fx; clear hS; go_simp; first | done | with_reducible rfl)
       try simp only [Act.put, List.setIfInBounds_toArray, List.set_cons_zero, List.set_cons_succ]))
  refine wpSeq_nil (fun W hS => ?_)
  have hS2 : In W0 ([(W0.heap.size + 1 + 1, 64, #[.bool false, .string { data := #[] }, .string { data := #[] }, .bool false, .string { data := #[] }, .string { data := #[] }, .bool false, .string { data := #[] }, .string { data := #[] }, .bool false, .string { data := #[] }, .string { data := #[] }])] ++ [(W0.heap.size + 1, 27, #[.bool x.neg, .string x.num, .string x.den]), (W0.heap.size, 64, #[.bool a.neg, .string a.num, .string a.den, .bool b.neg, .string b.num, .string b.den, .bool c.neg, .string c.num, .string c.den, .bool d.neg, .string d.num, .string d.den])]) W := hS.tail
  clear hS
  have hS0 := hS2.take (a := [_])
  have HK := Lib.hid ((hS2.all12 (a := []) (.bool e.neg) (.string e.num) (.string e.den) (.bool f.neg) (.string f.num) (.string f.den) (.bool g.neg) (.string g.num) (.string g.den) (.bool h.neg) (.string h.num) (.string h.den)))
  have hfx := hS0.facts
  simp only [factsOf, cellsOf, Nat.zero_add, Nat.reduceAdd] at hfx
  have hfz := fun i => hS0.free (k := 0) (i := i) rfl
  clear hS0 hS2
  go_wp2_with fail
  clear hfx hfz
  have hK := HK.out
  clear HK
  generalize World.setCell _ _ _ = W9 at hK ⊢
  refine bodyPost_ret (results_cell_row Tryd.results52 _ _ (W0.heap.size + 1 + 1 ) 64 _ (0, 0) _ rfl (hK.blkAt (k := 0) rfl) Tryd.underlying64 rfl (by kernel_rfl)) rfl ?_
  exact ⟨rfl, hK.bel⟩
end Go.Proofs.YthmgcbpmfipfiaaDoor
