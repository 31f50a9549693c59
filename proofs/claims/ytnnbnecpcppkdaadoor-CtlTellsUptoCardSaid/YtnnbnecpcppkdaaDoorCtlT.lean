/- ctl.Toward, ctl.bounded, track.copied. Tracks; track.At. arm.Has, arm.Fits, track.slow. track.slow, track.Check. track.Check. Conditions: those typed. -/
import Derived.Test.YtnnbnecpcppkdaaDoorCtlBase
import Derived.Test.YtnnbnecpcppkdaaDoorNeqQ
import Derived.Test.YtnnbnecpcppkdaaDoorReadings
import Derived.Test.YtnnbnecpcppkdaaDoorInvT
namespace Go.Proofs.YtnnbnecpcppkdaaDoor
open Go.RowKit Go.Gy
set_option linter.unusedVariables false
set_option linter.unusedSimpArgs false
theorem SlQ.up {w w' : World} {v : Value} {l : List Q3} (h : SlQ w w.heap.size v l) (hb : Below w.heap.size w w') : SlQ w' w'.heap.size v l := (h.below hb).more hb.size
theorem SlP.up {w w' : World} {v : Value} {l : List P2} (h : SlP w w.heap.size v l) (hb : Below w.heap.size w w') : SlP w' w'.heap.size v l := (h.below hb).more hb.size
theorem SlQ.blk {w : World} {b C : Nat} {cur : Array Value} {qs : List Q3} (hB : Blk w b 25 cur) (hc : cur.toList.take (qs.length * 3) = qs.flatMap encQ) (hC : qs.length ≤ C) : SlQ w w.heap.size (.slice (some ⟨b, 0, none⟩) qs.length C) qs := by
  refine ⟨_, _, _, rfl, rfl, hC, (fun h => by cases h), flatQ_length qs, fun _ => ⟨b, 0, rfl, hB.lt, fun j u hu => ?_⟩⟩
  rw [Nat.zero_add]
  refine hB.cell j u ?_
  have h2 : (cur.toList.take (qs.length * 3))[j]? = some u := by rw [hc]; exact hu
  rw [List.getElem?_take] at h2
  split at h2
  · simpa using h2
  · cases h2
def towQ (lo hi sp q g : Rat) : Rat := maxQ (-sp) (minQ sp (maxQ lo (minQ hi g) - q))
set_option maxRecDepth 100000 in
set_option maxHeartbeats 4000000 in
theorem towardR (w : World) (hT : TabW w) (k : Lk) (q g : Q3) {N : Nat} (hk : k.le N) (hq : q.le N) (hg : g.le N) (hN : 1 ≤ N ∧ N ≤ 274877906944) :
    ∃ z : Q3, z.q = towQ k.low.q k.high.q k.speed.q q.q g.q ∧ z.can ∧ z.le (N + N + 1) ∧ Hid (∀ W, Below w.heap.size w W → Calls Tryd.prog 92 #[.agg #[.bool k.len.neg, .string k.len.num, .string k.len.den, .bool k.low.neg, .string k.low.num, .string k.low.den, .bool k.high.neg, .string k.high.num, .string k.high.den, .bool k.speed.neg, .string k.speed.num, .string k.speed.den, .bool k.brake.neg, .string k.brake.num, .string k.brake.den, k.shape], .agg #[.bool q.neg, .string q.num, .string q.den], .agg #[.bool g.neg, .string g.num, .string g.den]] W fun e w' => e = .returned (.agg #[.bool z.neg, .string z.num, .string z.den]) ∧ Below W.heap.size W w') := by
  obtain ⟨_, kl, kh, ks, _⟩ := hk
  obtain ⟨a, qa, _, la, MI⟩ := minR w hT k.high g kh hg
  obtain ⟨b, qb, _, lb, MA⟩ := maxR w hT k.low a kl la
  have lb : b.le N := lb.more (by omega)
  obtain ⟨v, qv, _, lv, SU⟩ := subR w hT b q lb hq
  obtain ⟨s, qs, _, ls, NE⟩ := negR w hT k.speed ks
  obtain ⟨c, qc, _, lc, MI2⟩ := minR w hT k.speed v ks lv
  obtain ⟨z, qz, cz, lz, MA2⟩ := maxR w hT s c ls lc
  refine ⟨z, by rw [qz, qs, qc, qv, qb, qa]; rfl, cz, lz.more (by omega), Lib.hid fun W0 hW0 => ?_⟩
  replace MI := up MI hW0
  replace MA := up MA hW0
  replace SU := up SU hW0
  replace NE := up NE hW0
  replace MI2 := up MI2 hW0
  replace MA2 := up MA2 hW0
  have hI := ((((In.start W0).alloc 28 #[.bool k.len.neg, .string k.len.num, .string k.len.den, .bool k.low.neg, .string k.low.num, .string k.low.den, .bool k.high.neg, .string k.high.num, .string k.high.den, .bool k.speed.neg, .string k.speed.num, .string k.speed.den, .bool k.brake.neg, .string k.brake.num, .string k.brake.den, k.shape]).alloc 25 #[.bool q.neg, .string q.num, .string q.den]).alloc 25 #[.bool g.neg, .string g.num, .string g.den]).alloc 25 #[.bool false, .string { data := #[] }, .string { data := #[] }]
  rw [World.size_alloc, World.size_alloc, World.size_alloc] at hI
  clear qa la qb lb qv lv qs ls qc lc qz cz lz hT hW0 kl kh ks hq hg
  go_enter Tryd.func92, Tryd.ntmps92
  go_upto_region 1 with (fail)
  generalize World.alloc _ _ = W1 at hI ⊢
  refine wp_region_in_tail 7 hI (by kernel_rfl) (by kernel_rfl) ?_
  simp only [List.take_succ_cons, List.take_zero, List.drop_succ_cons, List.drop_zero]
  repeat (first
    | (refine wpSeq_off (by rfl) ?_; try simp only [Act.put, List.setIfInBounds_toArray, List.set_cons_zero, List.set_cons_succ])
    | (refine wpSeq_val (v := ?_) (by rfl) (fun W hS => ?_) ?_
       rotate_left
       · (have fx := hS.facts; simp only [factsOf, cellsOf, Nat.zero_add, Nat.reduceAdd] at fx; clear hS; go_simp; first | done | with_reducible rfl)
       try simp only [Act.put, List.setIfInBounds_toArray, List.set_cons_zero, List.set_cons_succ]))
  refine wpSeq_call (v := .agg #[.bool a.neg, .string a.num, .string a.den]) (by rfl) (fun W hS => ?_) (fun W hS => (MI.out W hS.bel)) ?_
  · (clear hS; go_simp; done)
  try simp only [Act.put, List.setIfInBounds_toArray, List.set_cons_zero, List.set_cons_succ]
  repeat (first
    | (refine wpSeq_off (by rfl) ?_; try simp only [Act.put, List.setIfInBounds_toArray, List.set_cons_zero, List.set_cons_succ])
    | (refine wpSeq_val (v := ?_) (by rfl) (fun W hS => ?_) ?_
       rotate_left
       · (have fx := hS.facts; simp only [factsOf, cellsOf, Nat.zero_add, Nat.reduceAdd] at fx; clear hS; go_simp; first | done | with_reducible rfl)
       try simp only [Act.put, List.setIfInBounds_toArray, List.set_cons_zero, List.set_cons_succ]))
  refine wpSeq_call (v := .agg #[.bool b.neg, .string b.num, .string b.den]) (by rfl) (fun W hS => ?_) (fun W hS => (MA.out W hS.bel)) ?_
  · (clear hS; go_simp; done)
  try simp only [Act.put, List.setIfInBounds_toArray, List.set_cons_zero, List.set_cons_succ]
  repeat (first
    | (refine wpSeq_off (by rfl) ?_; try simp only [Act.put, List.setIfInBounds_toArray, List.set_cons_zero, List.set_cons_succ])
    | (refine wpSeq_val (v := ?_) (by rfl) (fun W hS => ?_) ?_
       rotate_left
       · (have fx := hS.facts; simp only [factsOf, cellsOf, Nat.zero_add, Nat.reduceAdd] at fx; clear hS; go_simp; first | done | with_reducible rfl)
       try simp only [Act.put, List.setIfInBounds_toArray, List.set_cons_zero, List.set_cons_succ]))
  refine wpSeq_nil (fun W hS => ?_)
  clear hI MI MA
  have fx := hS.facts
  simp only [factsOf, cellsOf, Nat.zero_add, Nat.reduceAdd] at fx
  have hz := fun i => hS.free (k := 1) (i := i) rfl
  have HX := Lib.hid (hS.all3 (a := [_]) (.bool b.neg) (.string b.num) (.string b.den))
  clear hS
  go_upto_region 2 with (fail)
  have hI : In W0 (_ :: _ :: _ :: _ :: _) _ := HX.out
  clear HX fx hz
  generalize World.setCell _ _ _ = W2 at hI ⊢
  have fx := hI.facts
  simp only [factsOf, cellsOf, Nat.zero_add, Nat.reduceAdd] at fx
  go_wp2_with fail
  refine (SU.out _ hI.bel).mono ?_
  rintro e wn ⟨rfl, hb⟩
  replace hI := hI.call hb
  clear hb
  clear fx SU
  replace hI := hI.alloc 25 #[.bool v.neg, .string v.num, .string v.den]
  obtain ⟨g7, hg7⟩ : ∃ g, g = wn.heap.size := ⟨_, rfl⟩
  go_upto_region 3 with (fail)
  rw [← hg7] at hI ⊢
  generalize World.alloc _ _ = W3 at hI ⊢
  clear hg7
  refine wp_region_in_tail 8 hI (by kernel_rfl) (by kernel_rfl) ?_
  simp only [List.take_succ_cons, List.take_zero, List.drop_succ_cons, List.drop_zero]
  repeat (first
    | (refine wpSeq_off (by rfl) ?_; try simp only [Act.put, List.setIfInBounds_toArray, List.set_cons_zero, List.set_cons_succ])
    | (refine wpSeq_val (v := ?_) (by rfl) (fun W hS => ?_) ?_
       rotate_left
       · (have fx := hS.facts; simp only [factsOf, cellsOf, Nat.zero_add, Nat.reduceAdd] at fx; clear hS; go_simp; first | done | with_reducible rfl)
       try simp only [Act.put, List.setIfInBounds_toArray, List.set_cons_zero, List.set_cons_succ]))
  refine wpSeq_call (v := .agg #[.bool s.neg, .string s.num, .string s.den]) (by rfl) (fun W hS => ?_) (fun W hS => (NE.out W hS.bel)) ?_
  · (clear hS; go_simp; done)
  try simp only [Act.put, List.setIfInBounds_toArray, List.set_cons_zero, List.set_cons_succ]
  repeat (first
    | (refine wpSeq_off (by rfl) ?_; try simp only [Act.put, List.setIfInBounds_toArray, List.set_cons_zero, List.set_cons_succ])
    | (refine wpSeq_val (v := ?_) (by rfl) (fun W hS => ?_) ?_
       rotate_left
       · (have fx := hS.facts; simp only [factsOf, cellsOf, Nat.zero_add, Nat.reduceAdd] at fx; clear hS; go_simp; first | done | with_reducible rfl)
       try simp only [Act.put, List.setIfInBounds_toArray, List.set_cons_zero, List.set_cons_succ]))
  refine wpSeq_call (v := .agg #[.bool c.neg, .string c.num, .string c.den]) (by rfl) (fun W hS => ?_) (fun W hS => (MI2.out W hS.bel)) ?_
  · (clear hS; go_simp; done)
  try simp only [Act.put, List.setIfInBounds_toArray, List.set_cons_zero, List.set_cons_succ]
  repeat (first
    | (refine wpSeq_off (by rfl) ?_; try simp only [Act.put, List.setIfInBounds_toArray, List.set_cons_zero, List.set_cons_succ])
    | (refine wpSeq_val (v := ?_) (by rfl) (fun W hS => ?_) ?_
       rotate_left
       · (have fx := hS.facts; simp only [factsOf, cellsOf, Nat.zero_add, Nat.reduceAdd] at fx; clear hS; go_simp; first | done | with_reducible rfl)
       try simp only [Act.put, List.setIfInBounds_toArray, List.set_cons_zero, List.set_cons_succ]))
  refine wpSeq_call (v := .agg #[.bool z.neg, .string z.num, .string z.den]) (by rfl) (fun W hS => ?_) (fun W hS => (MA2.out W hS.bel)) ?_
  · (clear hS; go_simp; done)
  try simp only [Act.put, List.setIfInBounds_toArray, List.set_cons_zero, List.set_cons_succ]
  repeat (first
    | (refine wpSeq_off (by rfl) ?_; try simp only [Act.put, List.setIfInBounds_toArray, List.set_cons_zero, List.set_cons_succ])
    | (refine wpSeq_val (v := ?_) (by rfl) (fun W hS => ?_) ?_
       rotate_left
       · (have fx := hS.facts; simp only [factsOf, cellsOf, Nat.zero_add, Nat.reduceAdd] at fx; clear hS; go_simp; first | done | with_reducible rfl)
       try simp only [Act.put, List.setIfInBounds_toArray, List.set_cons_zero, List.set_cons_succ]))
  refine wpSeq_nil (fun W hS => ?_)
  clear hI NE MI2 MA2
  have fx := hS.facts
  simp only [factsOf, cellsOf, Nat.zero_add, Nat.reduceAdd] at fx
  have hfz := fun i => hS.free (k := 1) (i := i) rfl
  have HK := Lib.hid (hS.all3 (a := [_]) (.bool z.neg) (.string z.num) (.string z.den))
  clear hS
  go_wp2_with fail
  clear fx hfz
  have hK := HK.out
  clear HK
  generalize World.setCell _ _ _ = W9 at hK ⊢
  refine bodyPost_ret (results_cell_row Tryd.results92 _ _ (W0.heap.size + 1 + 1 + 1) 25 _ (0, 0) _ rfl (hK.blkAt (k := 1) rfl) Tryd.underlying25 rfl (by kernel_rfl)) rfl ?_
  exact ⟨rfl, hK.bel⟩
def bndZ (tick : Int) : Int := max (-1) (min tick 2000)
theorem bounded_any (w : World) (tick : Int) (ht : InI tick) : Calls Tryd.prog 91 #[.int .i64 tick] w fun e w' => e = .returned (.int .i64 (bndZ tick)) ∧ w' = w := by
  go_enter Tryd.func91, Tryd.ntmps91
  go_wp2
  go_ret
  exact ⟨rfl, rfl⟩
/-- good joint values -/
def CopRel (w : World) (l : List Q3) (out i : Value) (wr : World) : Prop := ∃ k : Nat, k ≤ l.length ∧ i = .int .i64 k ∧ wr.ownsRow w.heap.size 25 3 out k (rowQ ((l.take k).map Q3.q)) ∧ Below w.heap.size w wr
set_option maxRecDepth 100000 in
set_option maxHeartbeats 4000000 in
theorem copied_any (w : World) (hT : TabW w) (v : Value) (l : List Q3) {N : Nat} (hv : SlQ w w.heap.size v l) (hl : ∀ x ∈ l, x.le N) (hN : 1 ≤ N ∧ N ≤ 274877906944) (hn : l.length ≤ 1048576) :
    Calls Tryd.prog 95 #[v] w fun e w' => ∃ v', e = .returned v' ∧ w'.ownsRow w.heap.size 25 3 v' l.length (rowQ (l.map Q3.q)) ∧ Below w.heap.size w w' := by
  obtain ⟨i0, hi0, hz0, hz1, hz2⟩ := info_parts info_rat
  have HT := Lib.hid hT
  obtain ⟨A, n, c, rfl, hln, hnc, hA, hrd⟩ := hv
  subst hln
  have HRD := Lib.hid hrd
  have HL := Lib.hid hl
  have hst := Lib.hid (show CopRel w l (.slice none 0 0) (.int .i64 0) w from ⟨0, Nat.zero_le _, rfl, ⟨rfl, .inl ⟨rfl, rfl⟩⟩, Below.refl _ _⟩)
  clear hrd hl hT
  go_enter Tryd.func95, Tryd.ntmps95
  go_wp2_with fail
  go_loopw [3, 8] (fun out i wr => CopRel w l out i wr) (fun _ i _ => l.length - (intOf i).toNat)
  case atStart => exact hst.out
  case round =>
    clear hst
    obtain ⟨k, hk, rfl, hown, hbw⟩ := hrel
    obtain ⟨wq, rfl⟩ : ∃ wq, wq = wr := ⟨_, rfl⟩
    by_cases hin : k < l.length
    · have hi1 : (k : Int) < (l.length : Int) := by omega
      have hi2 : 0 ≤ (k : Int) ∧ (k : Int) < (l.length : Int) := by omega
      obtain ⟨x, hx⟩ : ∃ x, l[k]? = some x := ⟨_, List.getElem?_eq_getElem hin⟩
      obtain ⟨b, o, rfl, hbB, e0, e1, e2⟩ := Rd.quot HRD.out hx
      have lx := HL.out x (List.mem_of_getElem? hx)
      have d0 := (hbw.cell (p := ⟨b, o + k * 3, none⟩) hbB).trans e0
      have d1 := (hbw.cell (p := ⟨b, o + k * 3 + 1, none⟩) hbB).trans e1
      have d2 := (hbw.cell (p := ⟨b, o + k * 3 + 2, none⟩) hbB).trans e2
      have hbn : b < wq.heap.size := Nat.lt_of_lt_of_le hbB hbw.size
      have HT2 := Lib.hid (tabs w HT.out hbw)
      obtain ⟨z0, q0, _, l0, O0⟩ := ofR wq HT2.out 0
      obtain ⟨z, qz, cz, _, AD⟩ := addR wq HT2.out x z0 lx l0
      have hz : z.q = x.q := by
        have h0 : z0.q = 0 := q0
        rw [qz, h0, Rat.add_zero]
      have HROW := Lib.hid (show rowQ ((l.take (k + 1)).map Q3.q) = rowQ ((l.take k).map Q3.q) ++ [.bool z.neg, .string z.num, .string z.den] from by
        rw [List.take_add_one, hx, List.map_append]
        exact rowQ_can _ cz hz)
      have hwk : IntKind.i64.wrap ((k : Int) + 1) = (k : Int) + 1 := by rw [IntKind.wrap_i64]; omega
      have HOWN := Lib.hid hown
      have HBW := Lib.hid hbw
      have HN := Lib.hid (show ∀ v' w', w'.ownsRow w.heap.size 25 3 v' (k + 1) (rowQ ((l.take k).map Q3.q) ++ [.bool z.neg, .string z.num, .string z.den]) → Below w.heap.size w w' → CopRel w l v' (.int .i64 ((k : Int) + 1)) w' from fun v' w' ho hb => ⟨k + 1, hin, by simp, by rw [HROW.out]; exact ho, hb⟩)
      clear e0 e1 e2 hx lx q0 qz cz l0 hz hown
      have hJ := (In.start wq).alloc 25 #[.bool x.neg, .string x.num, .string x.den]
      obtain ⟨g5, hg5⟩ : ∃ g, g = wq.heap.size := ⟨_, rfl⟩
      go_upto_region 5 with (fail)
      clear d0 d1 d2 hbn hbB
      rw [← hg5] at hJ ⊢
      generalize World.alloc _ _ = W5 at hJ ⊢
      clear hg5
      refine wp_region_in_lateS 4 [0] _ 25 #[.bool z.neg, .string z.num, .string z.den] hJ (by kernel_rfl) (by kernel_rfl) rfl ?_
      simp only [List.take_succ_cons, List.take_zero, List.drop_succ_cons, List.drop_zero]
      repeat (first
        | (refine wpSeqL_off (by rfl) ?_; try simp only [Act.put, List.setIfInBounds_toArray, List.set_cons_zero, List.set_cons_succ])
        | (refine wpSeqL_pure (v := ?_) (by rfl) (fun W => ?_) ?_
           rotate_left
           · (go_simp; first | done | with_reducible rfl)
           try simp only [Act.put, List.setIfInBounds_toArray, List.set_cons_zero, List.set_cons_succ])
        | (refine wpSeqL_val (v := ?_) (by rfl) (by rfl) (fun W hS => ?_) ?_
           rotate_left
           · (have fx := hS.facts; simp only [factsOf, cellsOf, Nat.zero_add, Nat.reduceAdd] at fx; clear hS; go_simp; first | done | with_reducible rfl)
           try simp only [Act.put, List.setIfInBounds_toArray, List.set_cons_zero, List.set_cons_succ]))
      refine wpSeqL_call (v := .agg #[.bool z0.neg, .string z0.num, .string z0.den]) (by rfl) (by rfl) (fun W hS => ?_) (fun W hS => (O0.out W hS.bel)) ?_
      · (clear hS; go_simp; done)
      try simp only [Act.put, List.setIfInBounds_toArray, List.set_cons_zero, List.set_cons_succ]
      repeat (first
        | (refine wpSeqL_off (by rfl) ?_; try simp only [Act.put, List.setIfInBounds_toArray, List.set_cons_zero, List.set_cons_succ])
        | (refine wpSeqL_pure (v := ?_) (by rfl) (fun W => ?_) ?_
           rotate_left
           · (go_simp; first | done | with_reducible rfl)
           try simp only [Act.put, List.setIfInBounds_toArray, List.set_cons_zero, List.set_cons_succ])
        | (refine wpSeqL_val (v := ?_) (by rfl) (by rfl) (fun W hS => ?_) ?_
           rotate_left
           · (have fx := hS.facts; simp only [factsOf, cellsOf, Nat.zero_add, Nat.reduceAdd] at fx; clear hS; go_simp; first | done | with_reducible rfl)
           try simp only [Act.put, List.setIfInBounds_toArray, List.set_cons_zero, List.set_cons_succ]))
      refine wpSeqL_call (v := .agg #[.bool z.neg, .string z.num, .string z.den]) (by rfl) (by rfl) (fun W hS => ?_) (fun W hS => (AD.out W hS.bel)) ?_
      · (clear hS; go_simp; done)
      try simp only [Act.put, List.setIfInBounds_toArray, List.set_cons_zero, List.set_cons_succ]
      repeat (first
        | (refine wpSeqL_off (by rfl) ?_; try simp only [Act.put, List.setIfInBounds_toArray, List.set_cons_zero, List.set_cons_succ])
        | (refine wpSeqL_pure (v := ?_) (by rfl) (fun W => ?_) ?_
           rotate_left
           · (go_simp; first | done | with_reducible rfl)
           try simp only [Act.put, List.setIfInBounds_toArray, List.set_cons_zero, List.set_cons_succ])
        | (refine wpSeqL_val (v := ?_) (by rfl) (by rfl) (fun W hS => ?_) ?_
           rotate_left
           · (have fx := hS.facts; simp only [factsOf, cellsOf, Nat.zero_add, Nat.reduceAdd] at fx; clear hS; go_simp; first | done | with_reducible rfl)
           try simp only [Act.put, List.setIfInBounds_toArray, List.set_cons_zero, List.set_cons_succ]))
      refine wpSeqL_nil ⟨rfl, fun W hS => ?_, fun g W hI => ?_⟩
      · go_simp
      simp only [List.setIfInBounds_toArray, List.set_cons_zero, List.set_cons_succ]
      have hbase : w.heap.size ≤ W.heap.size := Nat.le_trans HBW.out.size hI.bel.size
      have Ho := Lib.hid (own_below HOWN.out hI.bel (Nat.le_refl _))
      have HBB := Lib.hid (HBW.out.trans (hI.bel.mono HBW.out.size))
      have Hrs := Lib.hid (show Rd W W.heap.size 3 (some ⟨g, 0, none⟩) 1 [.bool z.neg, .string z.num, .string z.den] from ⟨rfl, fun _ => ⟨g, 0, rfl, hI.lt (k := 0) rfl, fun j u hj => by rw [Nat.zero_add]; exact hI.cell (k := 0) rfl hj⟩⟩)
      clear hI hJ
      go_wp2_with (at_builtin; refine wpList_extend rfl (.tmp 12) (.tmp 16) 48 rfl w.heap.size 25 i0 (.agg #[.bool false, .string { data := #[] }, .string { data := #[] }]) 3 40 Tryd.underlying48 hi0 hz0 hz1 hz2 rfl (by omega) _ k _ rfl Ho.out _ 1 1 _ [.bool z.neg, .string z.num, .string z.den] rfl (fun h => by cases h) Hrs.out (by simp [Value.oneCell']) (by unfold maxLen; omega) (by omega) hbase ?_; intro v6 w6 hn6 hb6)
      have HX := Lib.hid (HN.out _ _ hn6 (HBB.out.trans hb6))
      clear hn6 hb6
      refine NoPanic.normal ?_
      go_wp2_with fail
      go_roundw
      case rel => exact HX.out
      case measure => simp [intOf]; omega
    · obtain rfl : k = l.length := by omega
      have hi1 : ¬ (l.length : Int) < (l.length : Int) := by omega
      rw [List.take_of_length_le (Nat.le_refl _)] at hown
      have Ho := Lib.hid hown
      clear hown
      go_wp2
      go_ret
      exact ⟨_, rfl, Ho.out, hbw⟩
end Go.Proofs.YtnnbnecpcppkdaaDoor
namespace Go.Proofs.YtnnbnecpcppkdaaDoor
open Go.RowKit Go.Gy
set_option linter.unusedVariables false
set_option linter.unusedSimpArgs false
/-- a key: its tick, its slice of joint values, and these -/
abbrev Ky := Int × Value × List Q3
def encKy (k : Ky) : List Value := [.int .i64 k.1, k.2.1]
theorem encKy_length (k : Ky) : (encKy k).length = 2 := rfl
def SlK (w : World) (B : Nat) (v : Value) (K : List Ky) : Prop := ∃ A n c, v = .slice A n c ∧ K.length = n ∧ n ≤ c ∧ (A = none → c = 0) ∧ Rd w B 2 A n (K.flatMap encKy) ∧ ∀ k ∈ K, SlQ w B k.2.1 k.2.2
theorem SlK.below {w w' : World} {B : Nat} {v : Value} {K : List Ky} (h : SlK w B v K) (hb : Below B w w') : SlK w' B v K := by
  obtain ⟨A, n, c, h1, h2, h3, h4, h5, h6⟩ := h
  exact ⟨A, n, c, h1, h2, h3, h4, h5.below hb, fun k hk => (h6 k hk).below hb⟩
theorem SlK.more {w : World} {B B' : Nat} {v : Value} {K : List Ky} (h : SlK w B v K) (hB : B ≤ B') : SlK w B' v K := by
  obtain ⟨A, n, c, h1, h2, h3, h4, h5, h6⟩ := h
  exact ⟨A, n, c, h1, h2, h3, h4, h5.more hB, fun k hk => (h6 k hk).more hB⟩
theorem SlK.up {w w' : World} {v : Value} {K : List Ky} (h : SlK w w.heap.size v K) (hb : Below w.heap.size w w') : SlK w' w'.heap.size v K := (h.below hb).more hb.size
theorem Rd.key {w : World} {B n i : Nat} {A : Option Addr} {K : List Ky} (h : Rd w B 2 A n (K.flatMap encKy)) {k : Ky} (hx : K[i]? = some k) : ∃ b o, A = some ⟨b, o, none⟩ ∧ b < B ∧ w.cell? ⟨b, o + i * 2, none⟩ = some (.int .i64 k.1) ∧ w.cell? ⟨b, o + i * 2 + 1, none⟩ = some k.2.1 := by
  have hk : i < K.length := (List.getElem?_eq_some_iff.1 hx).1
  have hn : 0 < n := by have := h.1; rw [flat_length encKy_length] at this; omega
  obtain ⟨b, o, hA, hb, hc⟩ := h.2 hn
  have key := fun j u (hu : (encKy k)[j]? = some u) => hc _ u (flat_get K encKy_length i k hx j u hu)
  refine ⟨b, o, hA, hb, ?_, ?_⟩
  · have := key 0 _ rfl; rwa [Nat.add_zero] at this
  · have := key 1 _ rfl; rwa [← Nat.add_assoc] at this
/-- ticks in order -/
def KyOk (K : List Ky) : Prop := (∀ k ∈ K, 0 ≤ k.1 ∧ k.1 ≤ 2000) ∧ ∀ (i : Nat) (a b : Ky), K[i]? = some a → K[i + 1]? = some b → a.1 < b.1
def KyLe (K : List Ky) (N : Nat) : Prop := ∀ k ∈ K, (∀ x ∈ k.2.2, x.le N) ∧ k.2.2.length ≤ 1048576
def interpQ (a b : Ky) (tick : Int) : List Rat := List.zipWith (fun x y : Q3 => x.q + (((tick : Rat) - (a.1 : Rat)) / ((b.1 : Rat) - (a.1 : Rat))) * (y.q - x.q)) a.2.2 b.2.2
def atL (tick : Int) : Ky → List Ky → List Rat
  | a, [] => a.2.2.map Q3.q
  | a, b :: r => if b.1 ≤ tick then atL tick b r else interpQ a b tick
def atQ (K : List Ky) (tick : Int) : List Rat := match K with
  | [] => []
  | a :: r => if tick ≤ a.1 then a.2.2.map Q3.q else atL tick a r
def AtRel (w : World) (K : List Ky) (tick : Int) (i : Value) (wr : World) : Prop := ∃ (m : Nat) (a : Ky), i = .int .i64 ((m : Int) + 1) ∧ K[m]? = some a ∧ atQ K tick = atL tick a (K.drop (m + 1)) ∧ w = wr
def InpRel (wb : World) (l : List Rat) (m : Nat) (out i : Value) (wr : World) : Prop := ∃ k : Nat, k ≤ m ∧ i = .int .i64 k ∧ wr.ownsRow wb.heap.size 25 3 out k (rowQ (l.take k)) ∧ Below wb.heap.size wb wr
set_option maxRecDepth 100000 in
set_option maxHeartbeats 8000000 in
theorem at_any' (w : World) (hT : TabW w) (v : Value) (K : List Ky) (tick : Int) {N : Nat} (hv : SlK w w.heap.size v K) (hl : KyLe K N) (hK : KyOk K) (hn : K.length ≤ 1048576) (ht : InI tick) (hN : 1 ≤ N ∧ N ≤ 68719476736) :
    Calls Tryd.prog 59 #[v, .int .i64 tick] w fun e w' => ∃ v', e = .returned v' ∧ w'.ownsRow w.heap.size 25 3 v' (atQ K tick).length (rowQ (atQ K tick)) ∧ Below w.heap.size w w' := by
  obtain ⟨i0, hi0, hz0, hz1, hz2⟩ := info_parts info_rat
  have HT := Lib.hid hT
  obtain ⟨A, n, c, rfl, hln, hnc, hA, hrd, hqs⟩ := hv
  subst hln
  have HRD := Lib.hid hrd
  have HQS := Lib.hid hqs
  have HL := Lib.hid hl
  have HK := Lib.hid hK
  have hti : -9223372036854775808 ≤ tick ∧ tick ≤ 9223372036854775807 := ht
  have HTI := Lib.hid hti
  clear hrd hqs hl hK hT ht hti
  rcases K with _ | ⟨a, r⟩
  · go_enter Tryd.func59, Tryd.ntmps59
    go_wp2
    go_ret
    exact ⟨_, rfl, ⟨rfl, .inl ⟨rfl, rfl⟩⟩, Below.refl _ _⟩
  · obtain ⟨K, hKd⟩ : ∃ K, K = a :: r := ⟨_, rfl⟩
    have h0 : K[0]? = some a := by rw [hKd]; rfl
    have HAT := Lib.hid (show atQ K tick = if tick ≤ a.1 then a.2.2.map Q3.q else atL tick a r from by rw [hKd]; rfl)
    have hdr : K.drop 1 = r := by rw [hKd]; rfl
    rw [← hKd] at HRD HQS HL HK hn hnc ⊢
    have hlen : 1 ≤ K.length := by rw [hKd]; simp
    have HDR := Lib.hid hdr
    clear hKd hdr
    have HTK := Lib.hid (HK.out.1 a (List.mem_of_getElem? h0))
    obtain ⟨b, o, rfl, hbB, e0, e1⟩ := Rd.key HRD.out h0
    rw [Nat.zero_mul, Nat.add_zero] at e0 e1
    have H0 := Lib.hid h0
    obtain ⟨Aa, na, ca, hka, _⟩ := id (HQS.out a (List.mem_of_getElem? h0))
    have hE0 := e0
    rw [hka] at e1
    have hi2 : (0 : Int) < (K.length : Int) := by omega
    have hne : ((K.length : Int) == 0) = false := by
      have : ¬ (K.length : Int) = 0 := by omega
      simpa using this
    clear hE0 h0
    go_enter Tryd.func59, Tryd.ntmps59
    by_cases htk : tick ≤ a.1
    · as_aux_lemma =>
      have HC := Lib.hid (copied_any w HT.out _ a.2.2 (HQS.out a (List.mem_of_getElem? H0.out)) (HL.out a (List.mem_of_getElem? H0.out)).1 (by omega) (HL.out a (List.mem_of_getElem? H0.out)).2)
      rw [hka] at HC
      go_wp2_with fail
      refine HC.out.mono ?_
      rintro e w1 ⟨v', rfl, hown, hb⟩
      have HO := Lib.hid (show w1.ownsRow w.heap.size 25 3 v' (atQ K tick).length (rowQ (atQ K tick)) from by
        rw [HAT.out, if_pos htk, List.length_map]
        exact hown)
      clear hown HC
      go_wp2
      go_ret
      exact ⟨_, rfl, HO.out, hb⟩
    · have hst := Lib.hid (show AtRel w K tick (.int .i64 1) w from ⟨0, a, rfl, H0.out, by rw [HAT.out, if_neg htk, Nat.zero_add, HDR.out], rfl⟩)
      go_wp2_with fail
      clear e0 e1 hka
      go_loopw [5] (fun i wr => AtRel w K tick i wr) (fun i _ => K.length - (intOf i).toNat)
      case atStart => exact hst.out
      case round =>
        clear hst
        obtain ⟨m, x, rfl, hx, hat, rfl⟩ := hrel
        have hml : m < K.length := (List.getElem?_eq_some_iff.1 hx).1
        have HAT2 := Lib.hid hat
        have HX := Lib.hid hx
        obtain ⟨_, _, hex, _, g0, g1⟩ := Rd.key HRD.out hx
        cases hex
        clear hat hx
        obtain ⟨Ax, nx, cx, hkx, hnx, _⟩ := id (HQS.out x (List.mem_of_getElem? HX.out))
        rw [hkx] at g1
        have him : 0 ≤ (m : Int) ∧ (m : Int) < (K.length : Int) := by omega
        have hwm : IntKind.i64.wrap (m : Int) = (m : Int) := by rw [IntKind.wrap_i64]; omega
        have hbl : b < w.heap.size := hbB
        by_cases hin : m + 1 < K.length
        · have hi1 : (m : Int) + 1 < (K.length : Int) := by omega
          have hik : 0 ≤ (m : Int) + 1 ∧ (m : Int) + 1 < (K.length : Int) := by omega
          have hik2 : 0 ≤ (m : Int) + 1 := by omega
          obtain ⟨y, hy⟩ : ∃ y, K[m + 1]? = some y := ⟨_, List.getElem?_eq_getElem hin⟩
          have HY := Lib.hid hy
          have HDK := Lib.hid (show K.drop (m + 1) = y :: K.drop (m + 1 + 1) from by rw [List.drop_eq_getElem_cons hin]; congr 1; exact Option.some.inj ((List.getElem?_eq_getElem hin).symm.trans hy))
          obtain ⟨_, _, he, _, f0, f1⟩ := Rd.key HRD.out hy
          cases he
          obtain ⟨Ay, ny, cy, hky, hny, _⟩ := id (HQS.out y (List.mem_of_getElem? hy))
          rw [hky] at f1
          have hyt := HK.out.1 y (List.mem_of_getElem? hy)
          have hwk : IntKind.i64.wrap ((m : Int) + 1) = (m : Int) + 1 := by rw [IntKind.wrap_i64]; omega
          have hwk2 : IntKind.i64.wrap ((m : Int) + 1 + 1) = (m : Int) + 1 + 1 := by rw [IntKind.wrap_i64]; omega
          clear hy
          by_cases hyl : y.1 ≤ tick
          · as_aux_lemma =>
            have HX2 := Lib.hid (show AtRel w K tick (.int .i64 ((m : Int) + 1 + 1)) w from ⟨m + 1, y, by simp, HY.out, by
              rw [HAT2.out, HDK.out]
              show (if y.1 ≤ tick then atL tick y (K.drop (m + 1 + 1)) else interpQ x y tick) = _
              rw [if_pos hyl], rfl⟩)
            go_wp2_with fail
            go_roundw
            case rel => exact HX2.out
            case measure => simp [intOf]; omega
          · have hyl2 : ¬ y.1 ≤ tick := hyl
            obtain ⟨xt, xv, xl⟩ := x
            obtain ⟨yt, yv, yl⟩ := y
            have hkx : xv = .slice Ax nx cx := hkx
            have hky : yv = .slice Ay ny cy := hky
            have hnx : xl.length = nx := hnx
            have hny : yl.length = ny := hny
            subst hnx
            subst hny
            subst hkx
            subst hky
            have hxt := HK.out.1 _ (List.mem_of_getElem? HX.out)
            have hlt := HK.out.2 m _ _ HX.out HY.out
            have hyt : 0 ≤ yt ∧ yt ≤ 2000 := hyt
            have hxt : 0 ≤ xt ∧ xt ≤ 2000 := hxt
            have hlt : xt < yt := hlt
            have HVAL := Lib.hid (show atQ K tick = interpQ (xt, .slice Ax xl.length cx, xl) (yt, .slice Ay yl.length cy, yl) tick from by
              rw [HAT2.out, HDK.out]
              show (if yt ≤ tick then _ else _) = _
              rw [if_neg hyl2])
            have hw0 : IntKind.i64.wrap ((m : Int) + 1 - 1) = (m : Int) := by rw [IntKind.wrap_i64]; omega
            have c0 := fun W (hW : Below w.heap.size w W) => (hW.cell (p := ⟨b, o + m * 2, none⟩) hbB).trans g0
            have c1 := fun W (hW : Below w.heap.size w W) => (hW.cell (p := ⟨b, o + m * 2 + 1, none⟩) hbB).trans g1
            have c2 := fun W (hW : Below w.heap.size w W) => (hW.cell (p := ⟨b, o + (m + 1) * 2, none⟩) hbB).trans f0
            have c3 := fun W (hW : Below w.heap.size w W) => (hW.cell (p := ⟨b, o + (m + 1) * 2 + 1, none⟩) hbB).trans f1
            have hI := In.start w
            go_upto_region 9 with (fail)
            refine wp_region_invJ 12 (J2g w [] 89 #[.int .i64 0, .slice none 0 0] #[.int .i64 xt, .slice Ax xl.length cx] 9 [.slice (some ⟨b, o, none⟩) K.length c, .int .i64 ((m : Int) + 1), .int .i64 m, .pointer (some ⟨b, o + m * 2, none⟩), .agg #[.int .i64 xt, .slice Ax xl.length cx], .slice (some ⟨b, o, none⟩) K.length c, .int .i64 ((m : Int) + 1), .pointer (some ⟨b, o + (m + 1) * 2, none⟩), .agg #[.int .i64 yt, .slice Ay yl.length cy]]) (by kernel_rfl) (by kernel_rfl) (J2g.start hI.drew) ?_ ?_
            · as_aux_lemma =>
              clear hI HVAL hyl hyl2 hlt hxt hyt HRD HQS HL HK HTI HAT HDR HTK H0 HAT2 HX HY HDK g0 g1 f0 f1 hi1
              intro i op' hi ho us vs' W hJ hsi hdep
              have hb := hJ.bel
              have d0 := c0 W hb
              have d1 := c1 W hb
              have d2 := c2 W hb
              have d3 := c3 W hb
              have hbn := Nat.lt_of_lt_of_le hbB hb.size
              clear c0 c1 c2 c3 hb
              rcases i with _ | _ | _ | _ | _ | _ | _ | _ | _ | _ | _ | _ | i
              all_goals first | omega | skip
              all_goals (simp only [List.getElem?_cons_succ, List.getElem?_cons_zero, Option.some.injEq] at ho; subst ho)
              · refine StepJ.val rfl ?_ (hJ.pure (i := 0) (by omega) rfl)
                clear hJ hdep
                unfold lexA
                simp only [putAll, preI, Nat.reduceLT, Nat.reduceAdd, decide_false, Bool.false_eq_true, if_false]
                go_simp
              · refine StepJ.val rfl ?_ (hJ.pure (i := 1) (by omega) rfl)
                clear hJ hdep
                unfold lexA
                simp only [putAll, preI, Nat.reduceLT, Nat.reduceAdd, decide_true, decide_false, Bool.false_eq_true, if_true, if_false, Act.put, List.setIfInBounds_toArray, List.set_cons_zero, List.set_cons_succ]
                go_simp
              · have a1 : vs' 1 = .int .i64 ((m : Int) + 1) := hJ.1 1 _ rfl (hdep ⟨1, .data⟩ (by simp) rfl)
                refine StepJ.val rfl ?_ (hJ.pure (i := 2) (by omega) rfl)
                clear hJ hdep
                unfold lexA
                simp only [putAll, preI, Nat.reduceLT, Nat.reduceAdd, decide_true, decide_false, Bool.false_eq_true, if_true, if_false, Act.put, List.setIfInBounds_toArray, List.set_cons_zero, List.set_cons_succ]
                go_simp
              · have a0 : vs' 0 = .slice (some ⟨b, o, none⟩) K.length c := hJ.1 0 _ rfl (hdep ⟨0, .data⟩ (by simp) rfl)
                have a1 : vs' 2 = .int .i64 m := hJ.1 2 _ rfl (hdep ⟨2, .data⟩ (by simp) rfl)
                refine StepJ.val rfl ?_ (hJ.pure (i := 3) (by omega) rfl)
                clear hJ hdep
                unfold lexA
                simp only [putAll, preI, Nat.reduceLT, Nat.reduceAdd, decide_true, decide_false, Bool.false_eq_true, if_true, if_false, Act.put, List.setIfInBounds_toArray, List.set_cons_zero, List.set_cons_succ]
                go_simp
              · have a0 : vs' 3 = .pointer (some ⟨b, o + m * 2, none⟩) := hJ.1 3 _ rfl (hdep ⟨3, .data⟩ (by simp) rfl)
                refine StepJ.val rfl ?_ (hJ.pure (i := 4) (by omega) rfl)
                clear hJ hdep
                unfold lexA
                simp only [putAll, preI, Nat.reduceLT, Nat.reduceAdd, decide_true, decide_false, Bool.false_eq_true, if_true, if_false, Act.put, List.setIfInBounds_toArray, List.set_cons_zero, List.set_cons_succ]
                go_simp
              · refine StepJ.val rfl ?_ (hJ.pure (i := 5) (by omega) rfl)
                clear hJ hdep
                unfold lexA
                simp only [putAll, preI, Nat.reduceLT, Nat.reduceAdd, decide_true, decide_false, Bool.false_eq_true, if_true, if_false, Act.put, List.setIfInBounds_toArray, List.set_cons_zero, List.set_cons_succ]
                go_simp
              · refine StepJ.val rfl ?_ (hJ.pure (i := 6) (by omega) rfl)
                clear hJ hdep
                unfold lexA
                simp only [putAll, preI, Nat.reduceLT, Nat.reduceAdd, decide_true, decide_false, Bool.false_eq_true, if_true, if_false, Act.put, List.setIfInBounds_toArray, List.set_cons_zero, List.set_cons_succ]
                go_simp
              · have a0 : vs' 5 = .slice (some ⟨b, o, none⟩) K.length c := hJ.1 5 _ rfl (hdep ⟨5, .data⟩ (by simp) rfl)
                have a1 : vs' 6 = .int .i64 ((m : Int) + 1) := hJ.1 6 _ rfl (hdep ⟨6, .data⟩ (by simp) rfl)
                refine StepJ.val rfl ?_ (hJ.pure (i := 7) (by omega) rfl)
                clear hJ hdep
                unfold lexA
                simp only [putAll, preI, Nat.reduceLT, Nat.reduceAdd, decide_true, decide_false, Bool.false_eq_true, if_true, if_false, Act.put, List.setIfInBounds_toArray, List.set_cons_zero, List.set_cons_succ]
                go_simp
              · have a0 : vs' 7 = .pointer (some ⟨b, o + (m + 1) * 2, none⟩) := hJ.1 7 _ rfl (hdep ⟨7, .data⟩ (by simp) rfl)
                refine StepJ.val rfl ?_ (hJ.pure (i := 8) (by omega) rfl)
                clear hJ hdep
                unfold lexA
                simp only [putAll, preI, Nat.reduceLT, Nat.reduceAdd, decide_true, decide_false, Bool.false_eq_true, if_true, if_false, Act.put, List.setIfInBounds_toArray, List.set_cons_zero, List.set_cons_succ]
                go_simp
              · refine StepJ.val rfl ?_ (hJ.alloc8 hsi rfl)
                clear hJ
                unfold lexA
                simp only [putAll, preI, Nat.reduceLT, Nat.reduceAdd, decide_true, decide_false, Bool.false_eq_true, if_true, if_false, Act.put, List.setIfInBounds_toArray, List.set_cons_zero, List.set_cons_succ]
                go_simp
              · refine StepJ.val rfl ?_ (hJ.alloc9 hsi rfl)
                clear hJ
                unfold lexA
                simp only [putAll, preI, Nat.reduceLT, Nat.reduceAdd, decide_true, decide_false, Bool.false_eq_true, if_true, if_false, Act.put, List.setIfInBounds_toArray, List.set_cons_zero, List.set_cons_succ]
                go_simp
              · have a4 : vs' 4 = .agg #[.int .i64 xt, .slice Ax xl.length cx] := hJ.1 4 _ rfl (hdep ⟨4, .data⟩ (by simp) rfl)
                obtain ⟨g, a9, hG, hNx⟩ := hJ.at8 (hdep ⟨9, .data⟩ (by simp) rfl) hsi rfl
                have a9 : vs' 9 = .pointer (some ⟨g, 0, none⟩) := a9
                refine StepJ.skip rfl ?_ (hNx ((W.setCell ⟨g, 0, none⟩ (.int .i64 xt)).setCell ⟨g, 1, none⟩ (.slice Ax xl.length cx)) (fun pre h => by
                  have h1 := (h.set 0 (.int .i64 xt)).set 1 (.slice Ax xl.length cx)
                  simpa using h1))
                have fx := hG.facts
                simp only [factsOf, cellsOf, Nat.zero_add, Nat.reduceAdd] at fx
                have hz := fun i => hG.free (k := 0) (i := i) rfl
                clear hJ hdep hG hNx
                unfold lexA
                simp only [putAll, preI, Nat.reduceLT, Nat.reduceAdd, decide_true, decide_false, Bool.false_eq_true, if_true, if_false, Act.put, List.setIfInBounds_toArray, List.set_cons_zero, List.set_cons_succ]
                go_simp
            · intro us vs' W hs hJ
              have a0 : vs' 0 = .slice (some ⟨b, o, none⟩) K.length c := hJ.1 0 _ rfl (hs 0 (by omega))
              have a1 : vs' 1 = .int .i64 ((m : Int) + 1) := hJ.1 1 _ rfl (hs 1 (by omega))
              have a2 : vs' 2 = .int .i64 m := hJ.1 2 _ rfl (hs 2 (by omega))
              have a3 : vs' 3 = .pointer (some ⟨b, o + m * 2, none⟩) := hJ.1 3 _ rfl (hs 3 (by omega))
              have a4 : vs' 4 = .agg #[.int .i64 xt, .slice Ax xl.length cx] := hJ.1 4 _ rfl (hs 4 (by omega))
              have a5 : vs' 5 = .slice (some ⟨b, o, none⟩) K.length c := hJ.1 5 _ rfl (hs 5 (by omega))
              have a6 : vs' 6 = .int .i64 ((m : Int) + 1) := hJ.1 6 _ rfl (hs 6 (by omega))
              have a7 : vs' 7 = .pointer (some ⟨b, o + (m + 1) * 2, none⟩) := hJ.1 7 _ rfl (hs 7 (by omega))
              have a8 : vs' 8 = .agg #[.int .i64 yt, .slice Ay yl.length cy] := hJ.1 8 _ rfl (hs 8 (by omega))
              obtain ⟨g6, g7, a9, a10, hK2⟩ := hJ.fin hs
              have a9 : vs' 9 = .pointer (some ⟨g6, 0, none⟩) := a9
              have a10 : vs' 10 = .pointer (some ⟨g7, 0, none⟩) := a10
              unfold lexA
              simp only [putAll, preI, Nat.reduceLT, Nat.reduceAdd, decide_true, decide_false, Bool.false_eq_true, if_true, if_false, Act.put, List.setIfInBounds_toArray, List.set_cons_zero, List.set_cons_succ, List.drop_succ_cons, List.drop_zero]
              rw [a0, a1, a2, a3, a4, a5, a6, a7, a8, a9, a10]
              clear a0 a1 a2 a3 a4 a5 a6 a7 a8 a9 a10 hJ hs hI c0 c1 c2 c3 g0 g1 f0 f1
              have hS1 := hK2.take (a := [_])
              have fx := hS1.facts
              simp only [factsOf, cellsOf, Nat.zero_add, Nat.reduceAdd] at fx
              have hz := fun i => hS1.free (k := 0) (i := i) rfl
              have hset := (hK2.set (a := []) 0 (.int .i64 yt)).set (a := []) 1 (.slice Ay yl.length cy)
              simp only [List.nil_append, List.setIfInBounds_toArray, List.set_cons_zero, List.set_cons_succ] at hset
              have HX2 := Lib.hid hset
              clear hS1 hK2 hset
              go_upto_region 10 with (fail)
              have hI : In w [(g7, 89, #[.int .i64 yt, .slice Ay yl.length cy]), (g6, 89, #[.int .i64 xt, .slice Ax xl.length cx])] _ := HX2.out
              clear HX2 fx hz
              generalize World.setCell _ _ _ = W7 at hI ⊢
              obtain ⟨zf, qf, _, lf, OF⟩ := ofR w HT.out xt (by omega)
              obtain ⟨zt, qt, _, lt, OT⟩ := ofR w HT.out tick HTI.out
              obtain ⟨zy, qy, _, ly, OY⟩ := ofR w HT.out yt (by omega)
              obtain ⟨sa, qa, _, la, S1⟩ := subR w HT.out zt zf lt lf
              obtain ⟨sb, qb, _, lb, S2⟩ := subR w HT.out zy zf ly lf
              have hb0 : sb.q ≠ 0 := by
                rw [qb, qy, qf, ← Rat.intCast_sub]
                intro h
                have h1 := Rat.intCast_inj.mp (show ((yt - xt : Int) : Rat) = ((0 : Int) : Rat) from h)
                omega
              obtain ⟨sq, qs, _, ls, DV⟩ := divR w HT.out sa sb la lb hb0
              have HSQ := Lib.hid (show sq.q = ((tick : Rat) - (xt : Rat)) / ((yt : Rat) - (xt : Rat)) from by rw [qs, qa, qb, qt, qf, qy])
              have HLS := Lib.hid ls
              clear qf lf qt lt qy ly qa la qb lb hb0 qs ls
              have fx := hI.facts
              simp only [factsOf, cellsOf, Nat.zero_add, Nat.reduceAdd] at fx
              go_wp2_with fail
              refine (OF.out _ hI.bel).mono ?_
              rintro e wn ⟨rfl, hb⟩
              replace hI := hI.call hb
              clear hb
              clear fx OF
              replace hI := hI.alloc 25 #[.bool zf.neg, .string zf.num, .string zf.den]
              obtain ⟨g8, hg8⟩ : ∃ g, g = wn.heap.size := ⟨_, rfl⟩
              go_upto_region 11 with (fail)
              rw [← hg8] at hI ⊢
              generalize World.alloc _ _ = W8 at hI ⊢
              clear hg8
              go_cut [9] (fun p wx => ∃ g9, p = .pointer (some ⟨g9, 0, none⟩) ∧ In w [(g9, 25, #[.bool sq.neg, .string sq.num, .string sq.den]), (g8, 25, #[.bool zf.neg, .string zf.num, .string zf.den]), (g7, 89, #[.int .i64 yt, .slice Ay yl.length cy]), (g6, 89, #[.int .i64 xt, .slice Ax xl.length cx])] wx)
              case first =>
                as_aux_lemma =>
                refine wp_region_in_late 13 [12] _ 25 #[.bool false, .string { data := #[] }, .string { data := #[] }] hI (by kernel_rfl) (by kernel_rfl) rfl ?_
                simp only [List.take_succ_cons, List.take_zero, List.drop_succ_cons, List.drop_zero]
                repeat (first
                  | (refine wpSeqL_off (by rfl) ?_; try simp only [Act.put, List.setIfInBounds_toArray, List.set_cons_zero, List.set_cons_succ])
                  | (refine wpSeqL_pure (v := ?_) (by rfl) (fun W => ?_) ?_
                     rotate_left
                     · (go_simp; first | done | with_reducible rfl)
                     try simp only [Act.put, List.setIfInBounds_toArray, List.set_cons_zero, List.set_cons_succ])
                  | (refine wpSeqL_val (v := ?_) (by rfl) (by rfl) (fun W hS => ?_) ?_
                     rotate_left
                     · (have fx := hS.facts; simp only [factsOf, cellsOf, Nat.zero_add, Nat.reduceAdd] at fx; clear hS; go_simp; first | done | with_reducible rfl)
                     try simp only [Act.put, List.setIfInBounds_toArray, List.set_cons_zero, List.set_cons_succ]))
                refine wpSeqL_call (v := .agg #[.bool zt.neg, .string zt.num, .string zt.den]) (by rfl) (by rfl) (fun W hS => ?_) (fun W hS => (OT.out W hS.bel)) ?_
                · (clear hS; go_simp; done)
                try simp only [Act.put, List.setIfInBounds_toArray, List.set_cons_zero, List.set_cons_succ]
                repeat (first
                  | (refine wpSeqL_off (by rfl) ?_; try simp only [Act.put, List.setIfInBounds_toArray, List.set_cons_zero, List.set_cons_succ])
                  | (refine wpSeqL_pure (v := ?_) (by rfl) (fun W => ?_) ?_
                     rotate_left
                     · (go_simp; first | done | with_reducible rfl)
                     try simp only [Act.put, List.setIfInBounds_toArray, List.set_cons_zero, List.set_cons_succ])
                  | (refine wpSeqL_val (v := ?_) (by rfl) (by rfl) (fun W hS => ?_) ?_
                     rotate_left
                     · (have fx := hS.facts; simp only [factsOf, cellsOf, Nat.zero_add, Nat.reduceAdd] at fx; clear hS; go_simp; first | done | with_reducible rfl)
                     try simp only [Act.put, List.setIfInBounds_toArray, List.set_cons_zero, List.set_cons_succ]))
                refine wpSeqL_call (v := .agg #[.bool sa.neg, .string sa.num, .string sa.den]) (by rfl) (by rfl) (fun W hS => ?_) (fun W hS => (S1.out W hS.bel)) ?_
                · (clear hS; go_simp; done)
                try simp only [Act.put, List.setIfInBounds_toArray, List.set_cons_zero, List.set_cons_succ]
                repeat (first
                  | (refine wpSeqL_off (by rfl) ?_; try simp only [Act.put, List.setIfInBounds_toArray, List.set_cons_zero, List.set_cons_succ])
                  | (refine wpSeqL_pure (v := ?_) (by rfl) (fun W => ?_) ?_
                     rotate_left
                     · (go_simp; first | done | with_reducible rfl)
                     try simp only [Act.put, List.setIfInBounds_toArray, List.set_cons_zero, List.set_cons_succ])
                  | (refine wpSeqL_val (v := ?_) (by rfl) (by rfl) (fun W hS => ?_) ?_
                     rotate_left
                     · (have fx := hS.facts; simp only [factsOf, cellsOf, Nat.zero_add, Nat.reduceAdd] at fx; clear hS; go_simp; first | done | with_reducible rfl)
                     try simp only [Act.put, List.setIfInBounds_toArray, List.set_cons_zero, List.set_cons_succ]))
                refine wpSeqL_call (v := .agg #[.bool zy.neg, .string zy.num, .string zy.den]) (by rfl) (by rfl) (fun W hS => ?_) (fun W hS => (OY.out W hS.bel)) ?_
                · (clear hS; go_simp; done)
                try simp only [Act.put, List.setIfInBounds_toArray, List.set_cons_zero, List.set_cons_succ]
                repeat (first
                  | (refine wpSeqL_off (by rfl) ?_; try simp only [Act.put, List.setIfInBounds_toArray, List.set_cons_zero, List.set_cons_succ])
                  | (refine wpSeqL_pure (v := ?_) (by rfl) (fun W => ?_) ?_
                     rotate_left
                     · (go_simp; first | done | with_reducible rfl)
                     try simp only [Act.put, List.setIfInBounds_toArray, List.set_cons_zero, List.set_cons_succ])
                  | (refine wpSeqL_val (v := ?_) (by rfl) (by rfl) (fun W hS => ?_) ?_
                     rotate_left
                     · (have fx := hS.facts; simp only [factsOf, cellsOf, Nat.zero_add, Nat.reduceAdd] at fx; clear hS; go_simp; first | done | with_reducible rfl)
                     try simp only [Act.put, List.setIfInBounds_toArray, List.set_cons_zero, List.set_cons_succ]))
                refine wpSeqL_call (v := .agg #[.bool sb.neg, .string sb.num, .string sb.den]) (by rfl) (by rfl) (fun W hS => ?_) (fun W hS => (S2.out W hS.bel)) ?_
                · (clear hS; go_simp; done)
                try simp only [Act.put, List.setIfInBounds_toArray, List.set_cons_zero, List.set_cons_succ]
                repeat (first
                  | (refine wpSeqL_off (by rfl) ?_; try simp only [Act.put, List.setIfInBounds_toArray, List.set_cons_zero, List.set_cons_succ])
                  | (refine wpSeqL_pure (v := ?_) (by rfl) (fun W => ?_) ?_
                     rotate_left
                     · (go_simp; first | done | with_reducible rfl)
                     try simp only [Act.put, List.setIfInBounds_toArray, List.set_cons_zero, List.set_cons_succ])
                  | (refine wpSeqL_val (v := ?_) (by rfl) (by rfl) (fun W hS => ?_) ?_
                     rotate_left
                     · (have fx := hS.facts; simp only [factsOf, cellsOf, Nat.zero_add, Nat.reduceAdd] at fx; clear hS; go_simp; first | done | with_reducible rfl)
                     try simp only [Act.put, List.setIfInBounds_toArray, List.set_cons_zero, List.set_cons_succ]))
                refine wpSeqL_call (v := .tuple #[.agg #[.bool sq.neg, .string sq.num, .string sq.den], .int .i64 0]) (by rfl) (by rfl) (fun W hS => ?_) (fun W hS => (DV.out W hS.bel)) ?_
                · (clear hS; go_simp; done)
                try simp only [Act.put, List.setIfInBounds_toArray, List.set_cons_zero, List.set_cons_succ]
                repeat (first
                  | (refine wpSeqL_off (by rfl) ?_; try simp only [Act.put, List.setIfInBounds_toArray, List.set_cons_zero, List.set_cons_succ])
                  | (refine wpSeqL_pure (v := ?_) (by rfl) (fun W => ?_) ?_
                     rotate_left
                     · (go_simp; first | done | with_reducible rfl)
                     try simp only [Act.put, List.setIfInBounds_toArray, List.set_cons_zero, List.set_cons_succ])
                  | (refine wpSeqL_val (v := ?_) (by rfl) (by rfl) (fun W hS => ?_) ?_
                     rotate_left
                     · (have fx := hS.facts; simp only [factsOf, cellsOf, Nat.zero_add, Nat.reduceAdd] at fx; clear hS; go_simp; first | done | with_reducible rfl)
                     try simp only [Act.put, List.setIfInBounds_toArray, List.set_cons_zero, List.set_cons_succ]))
                refine wpSeqL_nil ⟨rfl, fun W hS => ?_, fun g W hI => ?_⟩
                · go_simp
                simp only [List.setIfInBounds_toArray, List.set_cons_zero, List.set_cons_succ]
                have hS1 := hI.take (a := [_])
                have fx := hS1.facts
                simp only [factsOf, cellsOf, Nat.zero_add, Nat.reduceAdd] at fx
                have hz := fun i => hS1.free (k := 0) (i := i) rfl
                have HX := Lib.hid (hI.all3 (a := []) (.bool sq.neg) (.string sq.num) (.string sq.den))
                clear hS1 hI
                go_wp2_with fail
                refine NoPanic.normal ?_
                go_wp2_with fail
                go_meet
                exact ⟨g, rfl, HX.out⟩
              case rest =>
                clear hI OT S1 OY S2 DV
                obtain ⟨g9, rfl, hI⟩ := hcut
                obtain ⟨wb, rfl⟩ : ∃ wb, wb = wc := ⟨_, rfl⟩
                obtain ⟨m2, hmin⟩ : ∃ m2 : Nat, min (xl.length : Int) (yl.length : Int) = (m2 : Int) := ⟨min xl.length yl.length, by omega⟩
                have hm2 : m2 = min xl.length yl.length := by omega
                have HLX := (HL.out _ (List.mem_of_getElem? HX.out))
                have HLY := (HL.out _ (List.mem_of_getElem? HY.out))
                have HLX1 := Lib.hid (show (∀ q ∈ xl, q.le N) ∧ xl.length ≤ 1048576 from HLX)
                have HLY1 := Lib.hid (show (∀ q ∈ yl, q.le N) ∧ yl.length ≤ 1048576 from HLY)
                have HM2 := Lib.hid (show m2 ≤ xl.length ∧ m2 ≤ yl.length ∧ m2 ≤ 1048576 from by have := HLX1.out.2; omega)
                obtain ⟨l, hl⟩ : ∃ l, l = interpQ (xt, .slice Ax xl.length cx, xl) (yt, .slice Ay yl.length cy, yl) tick := ⟨_, rfl⟩
                have HLL := Lib.hid (show l.length = m2 from by rw [hl, hm2]; exact List.length_zipWith)
                have HLG := Lib.hid (show ∀ (k : Nat) (X Y : Q3), xl[k]? = some X → yl[k]? = some Y → l[k]? = some (X.q + sq.q * (Y.q - X.q)) from fun k X Y h1 h2 => by
                  rw [hl, HSQ.out]
                  unfold interpQ
                  rw [List.getElem?_zipWith, h1, h2])
                rw [← hl] at HVAL
                have HTB := Lib.hid (tabs w HT.out hI.bel)
                have r1 := HQS.out _ (List.mem_of_getElem? HX.out)
                have r2 := HQS.out _ (List.mem_of_getElem? HY.out)
                obtain ⟨_, _, _, he1, _, _, _, hr1⟩ := r1
                cases he1
                obtain ⟨_, _, _, he2, _, _, _, hr2⟩ := r2
                cases he2
                have HR1 := Lib.hid hr1
                have HR2 := Lib.hid hr2
                have HI := Lib.hid hI
                have hst2 := Lib.hid (show InpRel wb l m2 (.slice none 0 0) (.int .i64 0) wb from ⟨0, Nat.zero_le _, rfl, ⟨rfl, .inl ⟨rfl, rfl⟩⟩, Below.refl _ _⟩)
                have fx := hI.facts
                simp only [factsOf, cellsOf, Nat.zero_add, Nat.reduceAdd] at fx
                clear hI hr1 hr2 HLX HLY hl hm2 hyl hyl2 hlt hxt hyt
                go_wp2_with fail
                clear fx
                go_loopw [72, 11] (fun i out wr => InpRel wb l m2 out i wr) (fun i _ _ => m2 - (intOf i).toNat)
                case atStart => exact hst2.out
                case round =>
                  clear hst2
                  obtain ⟨k, hk, rfl, hown, hbw⟩ := hrel
                  obtain ⟨wq, rfl⟩ : ∃ wq, wq = wr := ⟨_, rfl⟩
                  by_cases hkm : k < m2
                  · as_aux_lemma =>
                    have hki : (k : Int) < (m2 : Int) := by omega
                    have hkx : 0 ≤ (k : Int) ∧ (k : Int) < (xl.length : Int) := by have := HM2.out; omega
                    have hky : 0 ≤ (k : Int) ∧ (k : Int) < (yl.length : Int) := by have := HM2.out; omega
                    obtain ⟨X, hX⟩ : ∃ X, xl[k]? = some X := ⟨_, List.getElem?_eq_getElem (by have := HM2.out; omega)⟩
                    obtain ⟨Y, hY⟩ : ∃ Y, yl[k]? = some Y := ⟨_, List.getElem?_eq_getElem (by have := HM2.out; omega)⟩
                    have lX := HLX1.out.1 X (List.mem_of_getElem? hX)
                    have lY := HLY1.out.1 Y (List.mem_of_getElem? hY)
                    have HTQ := Lib.hid (tabs wb HTB.out hbw)
                    obtain ⟨d, qd, _, ld, SU⟩ := subR wq HTQ.out Y X lY lX
                    obtain ⟨p, qp, _, lp, MU⟩ := mulR wq HTQ.out sq d HLS.out ld
                    obtain ⟨z, qz, cz, _, AD⟩ := addR wq HTQ.out X p lX lp
                    have HROW := Lib.hid (show rowQ (l.take (k + 1)) = rowQ (l.take k) ++ [.bool z.neg, .string z.num, .string z.den] from by
                      rw [List.take_add_one, HLG.out k X Y hX hY]
                      exact rowQ_can _ cz (by rw [qz, qp, qd]))
                    obtain ⟨bx, ox, hAx, hbx, x0, x1, x2⟩ := Rd.quot HR1.out hX
                    obtain ⟨by', oy, hAy, hby, y0, y1, y2⟩ := Rd.quot HR2.out hY
                    subst hAx hAy
                    have hbb := HI.out.bel
                    have hbq := hbb.trans (hbw.mono hbb.size)
                    have i6 := HI.out.cell (k := 3) (i := 1) rfl rfl
                    have i7 := HI.out.cell (k := 2) (i := 1) rfl rfl
                    have i9a := HI.out.cell (k := 0) (i := 0) rfl rfl
                    have i9b := HI.out.cell (k := 0) (i := 1) rfl rfl
                    have i9c := HI.out.cell (k := 0) (i := 2) rfl rfl
                    have l6 := HI.out.lt (k := 3) rfl
                    have l7 := HI.out.lt (k := 2) rfl
                    have l9 := HI.out.lt (k := 0) rfl
                    have E := Lib.hid (fun W (hW : Below wq.heap.size wq W) => (⟨((hbw.trans (hW.mono hbw.size)).cell (p := ⟨g6, 1, none⟩) l6).trans i6, ((hbw.trans (hW.mono hbw.size)).cell (p := ⟨g7, 1, none⟩) l7).trans i7, ((hbw.trans (hW.mono hbw.size)).cell (p := ⟨g9, 0, none⟩) l9).trans i9a, ((hbw.trans (hW.mono hbw.size)).cell (p := ⟨g9, 1, none⟩) l9).trans i9b, ((hbw.trans (hW.mono hbw.size)).cell (p := ⟨g9, 2, none⟩) l9).trans i9c,
                      ((hbq.trans (hW.mono hbq.size)).cell (p := ⟨bx, ox + k * 3, none⟩) hbx).trans x0, ((hbq.trans (hW.mono hbq.size)).cell (p := ⟨bx, ox + k * 3 + 1, none⟩) hbx).trans x1, ((hbq.trans (hW.mono hbq.size)).cell (p := ⟨bx, ox + k * 3 + 2, none⟩) hbx).trans x2, ((hbq.trans (hW.mono hbq.size)).cell (p := ⟨by', oy + k * 3, none⟩) hby).trans y0, ((hbq.trans (hW.mono hbq.size)).cell (p := ⟨by', oy + k * 3 + 1, none⟩) hby).trans y1, ((hbq.trans (hW.mono hbq.size)).cell (p := ⟨by', oy + k * 3 + 2, none⟩) hby).trans y2,
                      Nat.lt_of_lt_of_le hbx (hbq.trans (hW.mono hbq.size)).size, Nat.lt_of_lt_of_le hby (hbq.trans (hW.mono hbq.size)).size⟩ : And _ (And _ (And _ (And _ (And _ (And _ (And _ (And _ (And _ (And _ (And _ (And _ _)))))))))))))
                    have hwk : IntKind.i64.wrap ((k : Int) + 1) = (k : Int) + 1 := by have := HM2.out; rw [IntKind.wrap_i64]; omega
                    have HOWN := Lib.hid hown
                    have HBW := Lib.hid hbw
                    have hk6 : k ≤ 1048576 := by have := HM2.out; omega
                    have HN := Lib.hid (show ∀ v' w', w'.ownsRow wb.heap.size 25 3 v' (k + 1) (rowQ (l.take k) ++ [.bool z.neg, .string z.num, .string z.den]) → Below wb.heap.size wb w' → InpRel wb l m2 v' (.int .i64 ((k : Int) + 1)) w' from fun v' w' ho hb => ⟨k + 1, hkm, by simp, by rw [HROW.out]; exact ho, hb⟩)
                    have hJ := In.start wq
                    clear hX hY lX lY qd ld qp lp qz cz x0 x1 x2 y0 y1 y2 hbx hby hbb hbq i6 i7 i9a i9b i9c l6 l7 l9 hown
                    go_upto_region 16 with (fail)
                    refine wp_region_in_lateS 20 [0] _ 25 #[.bool z.neg, .string z.num, .string z.den] hJ (by kernel_rfl) (by kernel_rfl) rfl ?_
                    simp only [List.take_succ_cons, List.take_zero, List.drop_succ_cons, List.drop_zero]
                    repeat (first
                      | (refine wpSeqL_off (by rfl) ?_; try simp only [Act.put, List.setIfInBounds_toArray, List.set_cons_zero, List.set_cons_succ])
                      | (refine wpSeqL_pure (v := ?_) (by rfl) (fun W => ?_) ?_
                         rotate_left
                         · (go_simp; first | done | with_reducible rfl)
                         try simp only [Act.put, List.setIfInBounds_toArray, List.set_cons_zero, List.set_cons_succ])
                      | (refine wpSeqL_val (v := ?_) (by rfl) (by rfl) (fun W hS => ?_) ?_
                         rotate_left
                         · (have fx := hS.facts; simp only [factsOf, cellsOf, Nat.zero_add, Nat.reduceAdd] at fx; have fy0 := E.out W hS.bel; clear hS; go_simp; first | done | with_reducible rfl)
                         try simp only [Act.put, List.setIfInBounds_toArray, List.set_cons_zero, List.set_cons_succ]))
                    refine wpSeqL_call (v := .agg #[.bool d.neg, .string d.num, .string d.den]) (by rfl) (by rfl) (fun W hS => ?_) (fun W hS => (SU.out W hS.bel)) ?_
                    · (clear hS; go_simp; done)
                    try simp only [Act.put, List.setIfInBounds_toArray, List.set_cons_zero, List.set_cons_succ]
                    repeat (first
                      | (refine wpSeqL_off (by rfl) ?_; try simp only [Act.put, List.setIfInBounds_toArray, List.set_cons_zero, List.set_cons_succ])
                      | (refine wpSeqL_pure (v := ?_) (by rfl) (fun W => ?_) ?_
                         rotate_left
                         · (go_simp; first | done | with_reducible rfl)
                         try simp only [Act.put, List.setIfInBounds_toArray, List.set_cons_zero, List.set_cons_succ])
                      | (refine wpSeqL_val (v := ?_) (by rfl) (by rfl) (fun W hS => ?_) ?_
                         rotate_left
                         · (have fx := hS.facts; simp only [factsOf, cellsOf, Nat.zero_add, Nat.reduceAdd] at fx; have fy0 := E.out W hS.bel; clear hS; go_simp; first | done | with_reducible rfl)
                         try simp only [Act.put, List.setIfInBounds_toArray, List.set_cons_zero, List.set_cons_succ]))
                    refine wpSeqL_call (v := .agg #[.bool p.neg, .string p.num, .string p.den]) (by rfl) (by rfl) (fun W hS => ?_) (fun W hS => (MU.out W hS.bel)) ?_
                    · (clear hS; go_simp; done)
                    try simp only [Act.put, List.setIfInBounds_toArray, List.set_cons_zero, List.set_cons_succ]
                    repeat (first
                      | (refine wpSeqL_off (by rfl) ?_; try simp only [Act.put, List.setIfInBounds_toArray, List.set_cons_zero, List.set_cons_succ])
                      | (refine wpSeqL_pure (v := ?_) (by rfl) (fun W => ?_) ?_
                         rotate_left
                         · (go_simp; first | done | with_reducible rfl)
                         try simp only [Act.put, List.setIfInBounds_toArray, List.set_cons_zero, List.set_cons_succ])
                      | (refine wpSeqL_val (v := ?_) (by rfl) (by rfl) (fun W hS => ?_) ?_
                         rotate_left
                         · (have fx := hS.facts; simp only [factsOf, cellsOf, Nat.zero_add, Nat.reduceAdd] at fx; have fy0 := E.out W hS.bel; clear hS; go_simp; first | done | with_reducible rfl)
                         try simp only [Act.put, List.setIfInBounds_toArray, List.set_cons_zero, List.set_cons_succ]))
                    refine wpSeqL_call (v := .agg #[.bool z.neg, .string z.num, .string z.den]) (by rfl) (by rfl) (fun W hS => ?_) (fun W hS => (AD.out W hS.bel)) ?_
                    · (clear hS; go_simp; done)
                    try simp only [Act.put, List.setIfInBounds_toArray, List.set_cons_zero, List.set_cons_succ]
                    repeat (first
                      | (refine wpSeqL_off (by rfl) ?_; try simp only [Act.put, List.setIfInBounds_toArray, List.set_cons_zero, List.set_cons_succ])
                      | (refine wpSeqL_pure (v := ?_) (by rfl) (fun W => ?_) ?_
                         rotate_left
                         · (go_simp; first | done | with_reducible rfl)
                         try simp only [Act.put, List.setIfInBounds_toArray, List.set_cons_zero, List.set_cons_succ])
                      | (refine wpSeqL_val (v := ?_) (by rfl) (by rfl) (fun W hS => ?_) ?_
                         rotate_left
                         · (have fx := hS.facts; simp only [factsOf, cellsOf, Nat.zero_add, Nat.reduceAdd] at fx; have fy0 := E.out W hS.bel; clear hS; go_simp; first | done | with_reducible rfl)
                         try simp only [Act.put, List.setIfInBounds_toArray, List.set_cons_zero, List.set_cons_succ]))
                    refine wpSeqL_nil ⟨rfl, fun W hS => ?_, fun g W hI => ?_⟩
                    · go_simp
                    simp only [List.setIfInBounds_toArray, List.set_cons_zero, List.set_cons_succ]
                    have hbase : wb.heap.size ≤ W.heap.size := Nat.le_trans HBW.out.size hI.bel.size
                    have Ho := Lib.hid (own_below HOWN.out hI.bel (Nat.le_refl _))
                    have HBB := Lib.hid (HBW.out.trans (hI.bel.mono HBW.out.size))
                    have Hrs := Lib.hid (show Rd W W.heap.size 3 (some ⟨g, 0, none⟩) 1 [.bool z.neg, .string z.num, .string z.den] from ⟨rfl, fun _ => ⟨g, 0, rfl, hI.lt (k := 0) rfl, fun j u hj => by rw [Nat.zero_add]; exact hI.cell (k := 0) rfl hj⟩⟩)
                    clear hI hJ E
                    go_wp2_with (at_builtin; refine wpList_extend rfl (.tmp 75) (.tmp 95) 48 rfl wb.heap.size 25 i0 (.agg #[.bool false, .string { data := #[] }, .string { data := #[] }]) 3 40 Tryd.underlying48 hi0 hz0 hz1 hz2 rfl (by omega) _ k _ rfl Ho.out _ 1 1 _ [.bool z.neg, .string z.num, .string z.den] rfl (fun h => by cases h) Hrs.out (by simp [Value.oneCell']) (by unfold maxLen; omega) (by omega) hbase ?_; intro v6 w6 hn6 hb6)
                    have HX3 := Lib.hid (HN.out _ _ hn6 (HBB.out.trans hb6))
                    clear hn6 hb6
                    refine NoPanic.normal ?_
                    go_wp2_with fail
                    go_roundw
                    case rel => exact HX3.out
                    case measure => simp [intOf]; omega
                  · obtain rfl : k = m2 := by omega
                    have hki : ¬ (k : Int) < (k : Int) := by omega
                    have HO := Lib.hid (show wq.ownsRow w.heap.size 25 3 _ (atQ K tick).length (rowQ (atQ K tick)) from by
                      rw [HVAL.out, HLL.out]
                      rw [List.take_of_length_le (by rw [HLL.out]; exact Nat.le_refl _)] at hown
                      exact own_base hown HI.out.bel.size)
                    have hfin := HI.out.bel.trans (hbw.mono HI.out.bel.size)
                    clear hown hbw
                    go_wp2
                    go_ret
                    exact ⟨_, rfl, HO.out, hfin⟩
        · as_aux_lemma =>
          have hi1 : ¬ (m : Int) + 1 < (K.length : Int) := by omega
          have hKL : K.length = m + 1 := by omega
          have hwl : IntKind.i64.wrap ((K.length : Int) - 1) = (m : Int) := by rw [IntKind.wrap_i64]; omega
          have HC := Lib.hid (copied_any w HT.out _ x.2.2 (HQS.out x (List.mem_of_getElem? HX.out)) (HL.out x (List.mem_of_getElem? HX.out)).1 (by omega) (HL.out x (List.mem_of_getElem? HX.out)).2)
          rw [hkx] at HC
          have HVAL := Lib.hid (show atQ K tick = x.2.2.map Q3.q from by
            rw [HAT2.out, ← hKL, List.drop_length]
            rfl)
          clear hKL hkx
          go_wp2_with fail
          refine HC.out.mono ?_
          rintro e w1 ⟨v', rfl, hown, hb⟩
          have HO := Lib.hid (show w1.ownsRow w.heap.size 25 3 v' (atQ K tick).length (rowQ (atQ K tick)) from by
            rw [HVAL.out, List.length_map]
            exact hown)
          clear hown HC
          go_wp2
          go_ret
          exact ⟨_, rfl, HO.out, hb⟩
end Go.Proofs.YtnnbnecpcppkdaaDoor
namespace Go.Proofs.YtnnbnecpcppkdaaDoor
open Go.RowKit Go.Gy
set_option linter.unusedVariables false
set_option linter.unusedSimpArgs false
def HasE (a : Ar) (n : Nat) (e : Int) : Prop := ∃ c, ArmE a c ∧ ((c ≠ 0 ∧ e = c) ∨ (c = 0 ∧ n ≠ a.L.length ∧ e = 1) ∨ (c = 0 ∧ n = a.L.length ∧ e = 0))
theorem HasE.uniq {a : Ar} {n : Nat} {e e' : Int} (h : HasE a n e) (h' : HasE a n e') : e = e' := by
  obtain ⟨c, h1, h2⟩ := h
  obtain ⟨c', g1, g2⟩ := h'
  obtain rfl := h1.uniq g1
  omega
/-- within the limits of a link -/
def InLim (k : Lk) (q : Q3) : Prop := k.low.q ≤ q.q ∧ q.q ≤ k.high.q
def AFitE (a : Ar) (ql : List Q3) (e : Int) : Prop := ∃ c, HasE a ql.length c ∧ ((c ≠ 0 ∧ e = c) ∨ (c = 0 ∧ (∃ (j : Nat) (x : Lk × List P2) (q : Q3), a.L[j]? = some x ∧ ql[j]? = some q ∧ ¬ InLim x.1 q) ∧ e = 17) ∨ (c = 0 ∧ (∀ (j : Nat) (x : Lk × List P2) (q : Q3), a.L[j]? = some x → ql[j]? = some q → InLim x.1 q) ∧ e = 0))
theorem AFitE.uniq {a : Ar} {ql : List Q3} {e e' : Int} (h : AFitE a ql e) (h' : AFitE a ql e') : e = e' := by
  obtain ⟨c, h1, h2⟩ := h
  obtain ⟨c', g1, g2⟩ := h'
  obtain rfl := h1.uniq g1
  rcases h2 with ⟨k1, k2⟩ | ⟨k1, ⟨j, x, q, k2, k3, k4⟩, k5⟩ | ⟨k1, k2, k3⟩
  · rcases g2 with ⟨l1, l2⟩ | ⟨l1, _⟩ | ⟨l1, _⟩
    · omega
    · exact absurd l1 k1
    · exact absurd l1 k1
  · rcases g2 with ⟨l1, l2⟩ | ⟨l1, _, l3⟩ | ⟨l1, l2, l3⟩
    · exact absurd k1 l1
    · omega
    · exact absurd (l2 j x q k2 k3) k4
  · rcases g2 with ⟨l1, l2⟩ | ⟨l1, ⟨j, x, q, l2, l3, l4⟩, l5⟩ | ⟨l1, l2, l3⟩
    · exact absurd k1 l1
    · exact absurd (k2 j x q l2 l3) l4
    · omega
theorem AFitE.zero {a : Ar} {ql : List Q3} (h : AFitE a ql 0) : ArmE a 0 ∧ ql.length = a.L.length ∧ ∀ (j : Nat) (x : Lk × List P2) (q : Q3), a.L[j]? = some x → ql[j]? = some q → InLim x.1 q := by
  obtain ⟨c, ⟨c', h1, h2⟩, h3⟩ := h
  rcases h3 with ⟨k1, k2⟩ | ⟨_, _, k2⟩ | ⟨k1, k2, _⟩
  · exact absurd k2.symm k1
  · omega
  · subst k1
    rcases h2 with ⟨l1, l2⟩ | ⟨_, _, l2⟩ | ⟨l1, l2, _⟩
    · exact absurd l2.symm l1
    · omega
    · subst l1
      exact ⟨h1, l2, k2⟩
set_option maxRecDepth 100000 in
set_option maxHeartbeats 8000000 in
theorem has_any (w : World) (hT : TabW w) (a : Ar) {N : Nat} (hA : a.At w w.heap.size) (hle : a.le N) (hN : 1 ≤ N ∧ N ≤ 68719476736) (n1 : Nat) :
    Calls Tryd.prog 120 #[a.val, .int .i64 (n1 : Int)] w fun r w' => ∃ e, r = .returned (.int .i64 e) ∧ HasE a n1 e ∧ Below w.heap.size w w' := by
  have HCK := Lib.hid (fun W (hW : Below w.heap.size w W) => armCheck_any W (tabs w hT hW) a (hA.up hW) hle hN)
  obtain ⟨ar, har⟩ : ∃ ar, ar = a := ⟨_, rfl⟩
  rw [← har] at HCK ⊢
  obtain ⟨nm, ⟨px, py⟩, hf, t, va, L⟩ := a
  obtain ⟨⟨A9, n9, c9, hva, hNL, _⟩, _⟩ := hA
  obtain rfl : va = .slice A9 n9 c9 := hva
  obtain rfl : L.length = n9 := (Ar.ks_len ⟨nm, ⟨px, py⟩, hf, t, .slice A9 n9 c9, L⟩).symm.trans hNL
  have hval : ar.val = .agg #[.string nm, .bool px.neg, .string px.num, .string px.den, .bool py.neg, .string py.num, .string py.den, .bool hf, .bool t.neg, .string t.num, .string t.den, .slice A9 L.length c9] := by rw [har]; rfl
  have hLL : ar.L.length = L.length := by rw [har]
  rw [hval] at HCK ⊢
  have HE1 := Lib.hid (show ∀ c, ArmE ar c → c ≠ 0 → HasE ar n1 c from fun c h h0 => ⟨c, h, .inl ⟨h0, rfl⟩⟩)
  have HE2 := Lib.hid (show ArmE ar 0 → n1 ≠ L.length → HasE ar n1 1 from fun h h0 => ⟨0, h, .inr (.inl ⟨rfl, by rw [hLL]; exact h0, rfl⟩)⟩)
  have HE3 := Lib.hid (show ArmE ar 0 → n1 = L.length → HasE ar n1 0 from fun h h1 => ⟨0, h, .inr (.inr ⟨rfl, by rw [hLL]; exact h1, rfl⟩)⟩)
  have hI := (In.start w).alloc 37 #[.string nm, .bool px.neg, .string px.num, .string px.den, .bool py.neg, .string py.num, .string py.den, .bool hf, .bool t.neg, .string t.num, .string t.den, .slice A9 L.length c9]
  clear hval har hNL hle hT hLL
  go_enter Tryd.func120, Tryd.ntmps120
  go_upto_region 1 with (fail)
  generalize World.alloc _ _ = W1 at hI ⊢
  have fx := hI.facts
  simp only [factsOf, cellsOf, Nat.zero_add, Nat.reduceAdd] at fx
  go_wp2_with fail
  refine (HCK.out _ hI.bel).mono ?_
  rintro e wn ⟨c, rfl, hc, hb⟩
  replace hI := hI.call hb
  clear hb fx HCK
  have fx := hI.facts
  simp only [factsOf, cellsOf, Nat.zero_add, Nat.reduceAdd] at fx
  by_cases h0 : c = 0
  · subst h0
    have HC := Lib.hid hc
    clear hc
    by_cases h1 : n1 = L.length
    · have g1 : ((n1 : Int) != (L.length : Int)) = false := by simp [h1]
      have HX := Lib.hid (HE3.out HC.out h1)
      clear h1
      go_wp2
      go_ret
      exact ⟨0, rfl, HX.out, hI.bel⟩
    · have g1 : ((n1 : Int) != (L.length : Int)) = true := by simpa using (fun h : (n1 : Int) = L.length => h1 (by omega))
      have HX := Lib.hid (HE2.out HC.out h1)
      clear h1
      go_wp2
      go_ret
      exact ⟨1, rfl, HX.out, hI.bel⟩
  · have h01 : (c == 0) = false := by simpa using h0
    have h02 : (c != 0) = true := by simpa using h0
    have HX := Lib.hid (HE1.out c hc h0)
    clear hc
    go_wp2
    go_ret
    exact ⟨c, rfl, HX.out, hI.bel⟩
def AfRel (w : World) (ls : List (Nat × TypeId × Array Value)) (L : List (Lk × List P2)) (ql : List Q3) (i : Value) (wr : World) : Prop := ∃ k : Nat, k ≤ L.length ∧ i = .int .i64 k ∧ (∀ (j : Nat) (x : Lk × List P2) (q : Q3), j < k → L[j]? = some x → ql[j]? = some q → InLim x.1 q) ∧ In w ls wr
set_option maxRecDepth 100000 in
set_option maxHeartbeats 8000000 in
theorem afits_any (w : World) (hT : TabW w) (a : Ar) {N : Nat} (hA : a.At w w.heap.size) (hle : a.le N) (vq : Value) (ql : List Q3) (hq : SlQ w w.heap.size vq ql) (lq : ∀ x ∈ ql, x.le N) (hN : 1 ≤ N ∧ N ≤ 68719476736) :
    Calls Tryd.prog 93 #[a.val, vq] w fun r w' => ∃ e, r = .returned (.int .i64 e) ∧ AFitE a ql e ∧ Below w.heap.size w w' := by
  have HT := Lib.hid hT
  have HCK := Lib.hid (fun W (hW : Below w.heap.size w W) n => has_any W (tabs w hT hW) a (hA.up hW) hle hN n)
  have HLE := Lib.hid hle
  have HLQ := Lib.hid lq
  obtain ⟨Aq, nq, Cq, rfl, hnq, _, _, hrq⟩ := hq
  subst hnq
  have HRQ := Lib.hid hrq
  obtain ⟨ar, har⟩ : ∃ ar, ar = a := ⟨_, rfl⟩
  rw [← har] at HCK HLE ⊢
  obtain ⟨nm, ⟨px, py⟩, hf, t, va, L⟩ := a
  obtain ⟨⟨A, N9, C, hva, hNL, hNC, _, hrd⟩, hshp⟩ := hA
  obtain rfl : va = .slice A N9 C := hva
  obtain rfl : L.length = N9 := (Ar.ks_len ⟨nm, ⟨px, py⟩, hf, t, .slice A N9 C, L⟩).symm.trans hNL
  have hval : ar.val = .agg #[.string nm, .bool px.neg, .string px.num, .string px.den, .bool py.neg, .string py.num, .string py.den, .bool hf, .bool t.neg, .string t.num, .string t.den, .slice A L.length C] := by rw [har]; rfl
  have HLL := Lib.hid (show ar.L = L by rw [har])
  rw [hval] at HCK ⊢
  have HRD := Lib.hid hrd
  have HSH := Lib.hid (show ∀ x ∈ L, SlP w w.heap.size x.1.shape x.2 from hshp)
  have HKS := Lib.hid (show ∀ i : Nat, (L.map (·.1))[i]? = (L[i]?).map (·.1) from fun i => List.getElem?_map)
  have HLK := Lib.hid (show ∀ x ∈ L, x.1.le N from fun x hx => (HLE.out.2.2.2 x (by rw [HLL.out]; exact hx)).1)
  have hI := (In.start w).alloc 37 #[.string nm, .bool px.neg, .string px.num, .string px.den, .bool py.neg, .string py.num, .string py.den, .bool hf, .bool t.neg, .string t.num, .string t.den, .slice A L.length C]
  clear hval har hNL hle hT hrd hshp hrq lq
  go_enter Tryd.func93, Tryd.ntmps93
  go_upto_region 1 with (fail)
  generalize World.alloc _ _ = W1 at hI ⊢
  have fx := hI.facts
  simp only [factsOf, cellsOf, Nat.zero_add, Nat.reduceAdd] at fx
  go_wp2_with fail
  refine (HCK.out _ hI.bel ql.length).mono ?_
  rintro e wn ⟨c, rfl, hc, hb⟩
  replace hI := hI.call hb
  clear hb fx HCK
  by_cases h0 : c = 0
  · subst h0
    have hlen : ql.length = L.length := by
      obtain ⟨c', _, h2⟩ := hc
      rw [HLL.out] at h2
      omega
    have HC := Lib.hid hc
    have HQL := Lib.hid hlen
    have hst := Lib.hid (show AfRel w _ L ql (.int .i64 0) wn from ⟨0, Nat.zero_le _, rfl, fun j x q h => absurd h (Nat.not_lt_zero j), hI⟩)
    have hL3 : L.length ≤ 3 := by
      obtain ⟨c', h1, h2⟩ := hc
      have h3 : c' = 0 := by omega
      subst h3
      rw [← HLL.out]
      exact (h1.zero rfl).2.1
    have fx := hI.facts
    simp only [factsOf, cellsOf, Nat.zero_add, Nat.reduceAdd] at fx
    clear hI hc hlen
    go_wp2_with fail
    clear fx
    go_loopw [18] (fun i wr => AfRel w [(w.heap.size, 37, #[.string nm, .bool px.neg, .string px.num, .string px.den, .bool py.neg, .string py.num, .string py.den, .bool hf, .bool t.neg, .string t.num, .string t.den, .slice A L.length C])] L ql i wr) (fun i _ => L.length - (intOf i).toNat)
    case atStart => exact hst.out
    case round =>
      clear hst
      obtain ⟨k, hk, rfl, hok, hI⟩ := hrel
      obtain ⟨wq, rfl⟩ : ∃ wq, wq = wr := ⟨_, rfl⟩
      by_cases hin : k < L.length
      · have hi1 : (k : Int) < (L.length : Int) := by omega
        have hi2 : 0 ≤ (k : Int) ∧ (k : Int) < (L.length : Int) := by omega
        have hiq : 0 ≤ (k : Int) ∧ (k : Int) < (ql.length : Int) := by rw [HQL.out]; omega
        obtain ⟨⟨⟨klen, klow, khigh, kspeed, kbrake, kshape⟩, pts⟩, ha⟩ : ∃ x, L[k]? = some x := ⟨_, List.getElem?_eq_getElem hin⟩
        obtain ⟨q, hq⟩ : ∃ q, ql[k]? = some q := ⟨_, List.getElem?_eq_getElem (by rw [HQL.out]; exact hin)⟩
        obtain ⟨A5, n5, c5, hk5, _⟩ := HSH.out _ (List.mem_of_getElem? ha)
        obtain rfl : kshape = .slice A5 n5 c5 := hk5
        obtain ⟨b9, o, hAe, hbB, hlc⟩ := Rd.lnk HRD.out (i := k) (k := ⟨klen, klow, khigh, kspeed, kbrake, .slice A5 n5 c5⟩) (by
          show (L.map (·.1))[k]? = _
          rw [HKS.out, ha]; rfl)
        have hbw := hI.bel
        have hlc := hlc.below hbw hbB
        have hbn : b9 < wq.heap.size := Nat.lt_of_lt_of_le hbB hbw.size
        obtain ⟨f0, f1, f2, f3, f4, f5, f6, f7, f8, f9, f10, f11, f12, f13, f14, f15⟩ := hlc
        subst hAe
        have HTQ := Lib.hid (tabs w HT.out hbw)
        have lk := HLK.out _ (List.mem_of_getElem? ha)
        have ll : klow.le N := lk.2.1
        have lh : khigh.le N := lk.2.2.1
        have lq := HLQ.out q (List.mem_of_getElem? hq)
        obtain ⟨k1, _, _, p1, C1⟩ := cmpR wq HTQ.out q klow lq ll
        obtain ⟨k2, _, p2, _, C2⟩ := cmpR wq HTQ.out q khigh lq lh
        have HP := Lib.hid (show (¬ k1 < 0 ↔ klow.q ≤ q.q) ∧ (¬ k2 > 0 ↔ q.q ≤ khigh.q) from ⟨by rw [p1]; exact Rat.not_lt, by show ¬ 0 < k2 ↔ _; rw [p2]; exact Rat.not_lt⟩)
        obtain ⟨bq2, oq, hAq, hbq, x0, x1, x2⟩ := Rd.quot HRQ.out hq
        subst hAq
        have E := Lib.hid (fun W (hW : Below wq.heap.size wq W) => (⟨((hbw.trans (hW.mono hbw.size)).cell (p := ⟨bq2, oq + k * 3, none⟩) hbq).trans x0, ((hbw.trans (hW.mono hbw.size)).cell (p := ⟨bq2, oq + k * 3 + 1, none⟩) hbq).trans x1, ((hbw.trans (hW.mono hbw.size)).cell (p := ⟨bq2, oq + k * 3 + 2, none⟩) hbq).trans x2, Nat.lt_of_lt_of_le hbq (hbw.trans (hW.mono hbw.size)).size⟩ : And _ (And _ (And _ _))))
        have hwk : IntKind.i64.wrap ((k : Int) + 1) = (k : Int) + 1 := by rw [IntKind.wrap_i64]; omega
        have HBAD := Lib.hid (show ¬ InLim (⟨klen, klow, khigh, kspeed, kbrake, .slice A5 n5 c5⟩ : Lk) q → AFitE ar ql 17 from fun h => ⟨0, HC.out, .inr (.inl ⟨rfl, ⟨k, _, q, by rw [HLL.out]; exact ha, hq, h⟩, rfl⟩)⟩)
        have HI := Lib.hid hI
        have HN := Lib.hid (show InLim (⟨klen, klow, khigh, kspeed, kbrake, .slice A5 n5 c5⟩ : Lk) q → ∀ W, Below wq.heap.size wq W → AfRel w _ L ql (.int .i64 ((k : Int) + 1)) W from fun h W hW => ⟨k + 1, hin, by simp, fun j x y hj h1 h2 => by
          rcases Nat.lt_succ_iff_lt_or_eq.mp hj with h3 | h3
          · exact hok j x y h3 h1 h2
          · subst h3
            rw [ha] at h1
            rw [hq] at h2
            cases h1
            cases h2
            exact h, HI.out.call hW⟩)
        have HB := Lib.hid hbw
        have hJ := (In.start wq).alloc 28 #[.bool klen.neg, .string klen.num, .string klen.den, .bool klow.neg, .string klow.num, .string klow.den, .bool khigh.neg, .string khigh.num, .string khigh.den, .bool kspeed.neg, .string kspeed.num, .string kspeed.den, .bool kbrake.neg, .string kbrake.num, .string kbrake.den, .slice A5 n5 c5]
        obtain ⟨g7, hg7⟩ : ∃ g, g = wq.heap.size := ⟨_, rfl⟩
        clear hok ha hq hbq x0 x1 x2 lk ll lh lq p1 p2 hI hbw
        go_upto_region 7 with (fail)
        clear f0 f1 f2 f3 f4 f5 f6 f7 f8 f9 f10 f11 f12 f13 f14 f15 hbn hbB
        rw [← hg7] at hJ ⊢
        generalize World.alloc _ _ = W5 at hJ ⊢
        clear hg7
        by_cases hk1 : k1 < 0
        · as_aux_lemma =>
          have HX := Lib.hid (HBAD.out (fun h => (HP.out.1.mpr h.1) hk1))
          refine wp_region_in hJ (by kernel_rfl) (by kernel_rfl) ?_
          repeat (first
            | (refine wpSeq_off (by rfl) ?_; try simp only [Act.put, List.setIfInBounds_toArray, List.set_cons_zero, List.set_cons_succ])
            | (refine wpSeq_val (v := ?_) (by rfl) (fun W hS => ?_) ?_
               rotate_left
               · (have fx := hS.facts; simp only [factsOf, cellsOf, Nat.zero_add, Nat.reduceAdd] at fx; have fy0 := E.out W hS.bel; clear hS; go_simp; first | done | with_reducible rfl)
               try simp only [Act.put, List.setIfInBounds_toArray, List.set_cons_zero, List.set_cons_succ]))
          refine wpSeq_call (v := .int .i64 k1) (by rfl) (fun W hS => ?_) (fun W hS => (C1.out W hS.bel)) ?_
          · (clear hS; go_simp; done)
          try simp only [Act.put, List.setIfInBounds_toArray, List.set_cons_zero, List.set_cons_succ]
          repeat (first
            | (refine wpSeq_off (by rfl) ?_; try simp only [Act.put, List.setIfInBounds_toArray, List.set_cons_zero, List.set_cons_succ])
            | (refine wpSeq_val (v := ?_) (by rfl) (fun W hS => ?_) ?_
               rotate_left
               · (have fx := hS.facts; simp only [factsOf, cellsOf, Nat.zero_add, Nat.reduceAdd] at fx; have fy0 := E.out W hS.bel; clear hS; go_simp; first | done | with_reducible rfl)
               try simp only [Act.put, List.setIfInBounds_toArray, List.set_cons_zero, List.set_cons_succ]))
          refine wpSeq_nil (fun W hS => ?_)
          have hfin := HB.out.trans (hS.bel.mono HB.out.size)
          clear hS hJ E C1 C2
          go_wp2
          go_ret
          exact ⟨17, rfl, HX.out, hfin⟩
        · by_cases hk2 : k2 > 0
          · as_aux_lemma =>
            have HX := Lib.hid (HBAD.out (fun h => (HP.out.2.mpr h.2) hk2))
            refine wp_region_in hJ (by kernel_rfl) (by kernel_rfl) ?_
            repeat (first
              | (refine wpSeq_off (by rfl) ?_; try simp only [Act.put, List.setIfInBounds_toArray, List.set_cons_zero, List.set_cons_succ])
              | (refine wpSeq_val (v := ?_) (by rfl) (fun W hS => ?_) ?_
                 rotate_left
                 · (have fx := hS.facts; simp only [factsOf, cellsOf, Nat.zero_add, Nat.reduceAdd] at fx; have fy0 := E.out W hS.bel; clear hS; go_simp; first | done | with_reducible rfl)
                 try simp only [Act.put, List.setIfInBounds_toArray, List.set_cons_zero, List.set_cons_succ]))
            refine wpSeq_call (v := .int .i64 k1) (by rfl) (fun W hS => ?_) (fun W hS => (C1.out W hS.bel)) ?_
            · (clear hS; go_simp; done)
            try simp only [Act.put, List.setIfInBounds_toArray, List.set_cons_zero, List.set_cons_succ]
            repeat (first
              | (refine wpSeq_off (by rfl) ?_; try simp only [Act.put, List.setIfInBounds_toArray, List.set_cons_zero, List.set_cons_succ])
              | (refine wpSeq_val (v := ?_) (by rfl) (fun W hS => ?_) ?_
                 rotate_left
                 · (have fx := hS.facts; simp only [factsOf, cellsOf, Nat.zero_add, Nat.reduceAdd] at fx; have fy0 := E.out W hS.bel; clear hS; go_simp; first | done | with_reducible rfl)
                 try simp only [Act.put, List.setIfInBounds_toArray, List.set_cons_zero, List.set_cons_succ]))
            refine wpSeq_call (v := .int .i64 k2) (by rfl) (fun W hS => ?_) (fun W hS => (C2.out W hS.bel)) ?_
            · (clear hS; go_simp; done)
            try simp only [Act.put, List.setIfInBounds_toArray, List.set_cons_zero, List.set_cons_succ]
            repeat (first
              | (refine wpSeq_off (by rfl) ?_; try simp only [Act.put, List.setIfInBounds_toArray, List.set_cons_zero, List.set_cons_succ])
              | (refine wpSeq_val (v := ?_) (by rfl) (fun W hS => ?_) ?_
                 rotate_left
                 · (have fx := hS.facts; simp only [factsOf, cellsOf, Nat.zero_add, Nat.reduceAdd] at fx; have fy0 := E.out W hS.bel; clear hS; go_simp; first | done | with_reducible rfl)
                 try simp only [Act.put, List.setIfInBounds_toArray, List.set_cons_zero, List.set_cons_succ]))
            refine wpSeq_nil (fun W hS => ?_)
            have hfin := HB.out.trans (hS.bel.mono HB.out.size)
            clear hS hJ E C1 C2
            go_wp2
            go_ret
            exact ⟨17, rfl, HX.out, hfin⟩
          · as_aux_lemma =>
            have HX := Lib.hid (HN.out ⟨HP.out.1.mp hk1, HP.out.2.mp hk2⟩)
            refine wp_region_in hJ (by kernel_rfl) (by kernel_rfl) ?_
            repeat (first
              | (refine wpSeq_off (by rfl) ?_; try simp only [Act.put, List.setIfInBounds_toArray, List.set_cons_zero, List.set_cons_succ])
              | (refine wpSeq_val (v := ?_) (by rfl) (fun W hS => ?_) ?_
                 rotate_left
                 · (have fx := hS.facts; simp only [factsOf, cellsOf, Nat.zero_add, Nat.reduceAdd] at fx; have fy0 := E.out W hS.bel; clear hS; go_simp; first | done | with_reducible rfl)
                 try simp only [Act.put, List.setIfInBounds_toArray, List.set_cons_zero, List.set_cons_succ]))
            refine wpSeq_call (v := .int .i64 k1) (by rfl) (fun W hS => ?_) (fun W hS => (C1.out W hS.bel)) ?_
            · (clear hS; go_simp; done)
            try simp only [Act.put, List.setIfInBounds_toArray, List.set_cons_zero, List.set_cons_succ]
            repeat (first
              | (refine wpSeq_off (by rfl) ?_; try simp only [Act.put, List.setIfInBounds_toArray, List.set_cons_zero, List.set_cons_succ])
              | (refine wpSeq_val (v := ?_) (by rfl) (fun W hS => ?_) ?_
                 rotate_left
                 · (have fx := hS.facts; simp only [factsOf, cellsOf, Nat.zero_add, Nat.reduceAdd] at fx; have fy0 := E.out W hS.bel; clear hS; go_simp; first | done | with_reducible rfl)
                 try simp only [Act.put, List.setIfInBounds_toArray, List.set_cons_zero, List.set_cons_succ]))
            refine wpSeq_call (v := .int .i64 k2) (by rfl) (fun W hS => ?_) (fun W hS => (C2.out W hS.bel)) ?_
            · (clear hS; go_simp; done)
            try simp only [Act.put, List.setIfInBounds_toArray, List.set_cons_zero, List.set_cons_succ]
            repeat (first
              | (refine wpSeq_off (by rfl) ?_; try simp only [Act.put, List.setIfInBounds_toArray, List.set_cons_zero, List.set_cons_succ])
              | (refine wpSeq_val (v := ?_) (by rfl) (fun W hS => ?_) ?_
                 rotate_left
                 · (have fx := hS.facts; simp only [factsOf, cellsOf, Nat.zero_add, Nat.reduceAdd] at fx; have fy0 := E.out W hS.bel; clear hS; go_simp; first | done | with_reducible rfl)
                 try simp only [Act.put, List.setIfInBounds_toArray, List.set_cons_zero, List.set_cons_succ]))
            refine wpSeq_nil (fun W hS => ?_)
            have HX2 := Lib.hid (HX.out _ hS.bel)
            clear hS hJ E C1 C2 HX
            go_wp2_with fail
            go_roundw
            case rel => exact HX2.out
            case measure => simp [intOf]; omega
      · obtain rfl : k = L.length := by omega
        have hi1 : ¬ (L.length : Int) < (L.length : Int) := by omega
        have HX := Lib.hid (show AFitE ar ql 0 from ⟨0, HC.out, .inr (.inr ⟨rfl, fun j x q h1 h2 => by
          rw [HLL.out] at h1
          exact hok j x q (List.getElem?_eq_some_iff.1 h1).1 h1 h2, rfl⟩)⟩)
        have hfin := hI.bel
        clear hI hok
        go_wp2
        go_ret
        exact ⟨0, rfl, HX.out, hfin⟩
  · have h02 : (c != 0) = true := by simpa using h0
    have HX := Lib.hid (show AFitE ar ql c from ⟨c, hc, .inl ⟨h0, rfl⟩⟩)
    clear hc
    go_wp2
    go_ret
    exact ⟨c, rfl, HX.out, hI.bel⟩
end Go.Proofs.YtnnbnecpcppkdaaDoor
namespace Go.Proofs.YtnnbnecpcppkdaaDoor
open Go.RowKit Go.Gy
set_option linter.unusedVariables false
set_option linter.unusedSimpArgs false
/-- no joint is faster than permitted -/
def SlowP (L : List (Lk × List P2)) (p k : Ky) : Prop := ∀ (j : Nat) (x : Lk × List P2) (q q' : Q3), L[j]? = some x → p.2.2[j]? = some q → k.2.2[j]? = some q' → absQ (q'.q - q.q) ≤ x.1.speed.q * ((k.1 - p.1 : Int) : Rat)
def SlowPost (w : World) (L : List (Lk × List P2)) (p k : Ky) (e : Ending) (w' : World) : Prop := ∃ b : Bool, e = .returned (.bool b) ∧ (b = true ↔ SlowP L p k) ∧ Below w.heap.size w w'
def SwRel (w : World) (ls : List (Nat × TypeId × Array Value)) (L : List (Lk × List P2)) (p k : Ky) (i : Value) (wr : World) : Prop := ∃ m : Nat, m ≤ L.length ∧ i = .int .i64 m ∧ (∀ (j : Nat) (x : Lk × List P2) (q q' : Q3), j < m → L[j]? = some x → p.2.2[j]? = some q → k.2.2[j]? = some q' → absQ (q'.q - q.q) ≤ x.1.speed.q * ((k.1 - p.1 : Int) : Rat)) ∧ In w ls wr
set_option maxRecDepth 100000 in
set_option maxHeartbeats 8000000 in
theorem slow_any (w : World) (hT : TabW w) (a : Ar) (p k : Ky) {N : Nat} (hA : a.At w w.heap.size) (hle : a.le N) (hp : SlQ w w.heap.size p.2.1 p.2.2) (hk : SlQ w w.heap.size k.2.1 k.2.2) (lp : ∀ x ∈ p.2.2, x.le N) (lk : ∀ x ∈ k.2.2, x.le N) (hpl : p.2.2.length = a.L.length) (hkl : k.2.2.length = a.L.length) (hL : a.L.length ≤ 3) (tp : 0 ≤ p.1 ∧ p.1 ≤ 2000) (tk : 0 ≤ k.1 ∧ k.1 ≤ 2000) (hN : 1 ≤ N ∧ N ≤ 68719476736) :
    Calls Tryd.prog 94 #[a.val, .agg #[.int .i64 p.1, p.2.1], .agg #[.int .i64 k.1, k.2.1]] w (SlowPost w a.L p k) := by
  have HT := Lib.hid hT
  obtain ⟨pt, pv, pl⟩ := p
  obtain ⟨kt, kv, kl⟩ := k
  have hp : SlQ w w.heap.size pv pl := hp
  have hk : SlQ w w.heap.size kv kl := hk
  obtain ⟨Ap, np, Cp, rfl, hnp, _, _, hrp⟩ := hp
  obtain ⟨Ak, nk, Ck, rfl, hnk, _, _, hrk⟩ := hk
  subst hnp
  subst hnk
  have HRP := Lib.hid hrp
  have HRK := Lib.hid hrk
  have HLP := Lib.hid (show ∀ x ∈ pl, x.le N from lp)
  have HLQ := Lib.hid (show ∀ x ∈ kl, x.le N from lk)
  have HLE := Lib.hid hle
  have tp : 0 ≤ pt ∧ pt ≤ 2000 := tp
  have tk : 0 ≤ kt ∧ kt ≤ 2000 := tk
  have hwt : IntKind.i64.wrap (kt - pt) = kt - pt := by rw [IntKind.wrap_i64]; omega
  obtain ⟨zt, qt, _, lt, OT⟩ := ofR w hT (kt - pt) (by omega)
  obtain ⟨ar, har⟩ : ∃ ar, ar = a := ⟨_, rfl⟩
  rw [← har] at HLE hpl hkl hL ⊢
  obtain ⟨nm, ⟨px, py⟩, hf, t, va, L⟩ := a
  obtain ⟨⟨A, N9, C, hva, hNL, hNC, _, hrd⟩, hshp⟩ := hA
  obtain rfl : va = .slice A N9 C := hva
  obtain rfl : L.length = N9 := (Ar.ks_len ⟨nm, ⟨px, py⟩, hf, t, .slice A N9 C, L⟩).symm.trans hNL
  have hval : ar.val = .agg #[.string nm, .bool px.neg, .string px.num, .string px.den, .bool py.neg, .string py.num, .string py.den, .bool hf, .bool t.neg, .string t.num, .string t.den, .slice A L.length C] := by rw [har]; rfl
  have hLL : ar.L = L := by rw [har]
  rw [hLL] at hpl hkl hL
  rw [hval, hLL]
  have HPL := Lib.hid (show pl.length = L.length from hpl)
  have HKL := Lib.hid (show kl.length = L.length from hkl)
  have HRD := Lib.hid hrd
  have HSH := Lib.hid (show ∀ x ∈ L, SlP w w.heap.size x.1.shape x.2 from hshp)
  have HKS := Lib.hid (show ∀ i : Nat, (L.map (·.1))[i]? = (L[i]?).map (·.1) from fun i => List.getElem?_map)
  have HLK := Lib.hid (show ∀ x ∈ L, x.1.le N from fun x hx => (HLE.out.2.2.2 x (by rw [hLL]; exact hx)).1)
  have HQT := Lib.hid qt
  have HLT := Lib.hid lt
  have hI := (((In.start w).alloc 37 #[.string nm, .bool px.neg, .string px.num, .string px.den, .bool py.neg, .string py.num, .string py.den, .bool hf, .bool t.neg, .string t.num, .string t.den, .slice A L.length C]).alloc 89 #[.int .i64 pt, .slice Ap pl.length Cp]).alloc 89 #[.int .i64 kt, .slice Ak kl.length Ck]
  rw [World.size_alloc, World.size_alloc] at hI
  clear hval har hNL hle hT hrd hshp hrp hrk lp lk hpl hkl qt lt hLL tp tk
  show Calls _ _ #[_, .agg #[.int .i64 pt, .slice Ap pl.length Cp], .agg #[.int .i64 kt, .slice Ak kl.length Ck]] _ _
  go_enter Tryd.func94, Tryd.ntmps94
  go_upto_region 1 with (fail)
  generalize World.alloc _ _ = W1 at hI ⊢
  have fx := hI.facts
  simp only [factsOf, cellsOf, Nat.zero_add, Nat.reduceAdd] at fx
  go_wp2_with fail
  refine (OT.out _ hI.bel).mono ?_
  rintro e wn ⟨rfl, hb⟩
  replace hI := hI.call hb
  clear hb
  clear fx OT
  replace hI := hI.alloc 25 #[.bool zt.neg, .string zt.num, .string zt.den]
  obtain ⟨g7, hg7⟩ : ∃ g, g = wn.heap.size := ⟨_, rfl⟩
  go_upto_region 2 with (fail)
  rw [← hg7] at hI ⊢
  generalize World.alloc _ _ = W2 at hI ⊢
  clear hg7
  have hst := Lib.hid (show SwRel w _ L (pt, .slice Ap pl.length Cp, pl) (kt, .slice Ak kl.length Ck, kl) (.int .i64 0) W2 from ⟨0, Nat.zero_le _, rfl, fun j x q q' h => absurd h (Nat.not_lt_zero j), hI⟩)
  have fx := hI.facts
  simp only [factsOf, cellsOf, Nat.zero_add, Nat.reduceAdd] at fx
  clear hI
  go_wp2_with fail
  clear fx
  go_loopw [19] (fun i wr => SwRel w [(g7, 25, #[.bool zt.neg, .string zt.num, .string zt.den]), (w.heap.size + 1 + 1, 89, #[.int .i64 kt, .slice Ak kl.length Ck]), (w.heap.size + 1, 89, #[.int .i64 pt, .slice Ap pl.length Cp]), (w.heap.size, 37, #[.string nm, .bool px.neg, .string px.num, .string px.den, .bool py.neg, .string py.num, .string py.den, .bool hf, .bool t.neg, .string t.num, .string t.den, .slice A L.length C])] L (pt, .slice Ap pl.length Cp, pl) (kt, .slice Ak kl.length Ck, kl) i wr) (fun i _ => L.length - (intOf i).toNat)
  case atStart => exact hst.out
  case round =>
    clear hst
    obtain ⟨m, hm, rfl, hok, hI⟩ := hrel
    obtain ⟨wq, rfl⟩ : ∃ wq, wq = wr := ⟨_, rfl⟩
    by_cases hin : m < L.length
    · have hi1 : (m : Int) < (L.length : Int) := by omega
      have hi2 : 0 ≤ (m : Int) ∧ (m : Int) < (L.length : Int) := by omega
      have hip : 0 ≤ (m : Int) ∧ (m : Int) < (pl.length : Int) := by rw [HPL.out]; omega
      have hik : 0 ≤ (m : Int) ∧ (m : Int) < (kl.length : Int) := by rw [HKL.out]; omega
      obtain ⟨⟨⟨klen, klow, khigh, kspeed, kbrake, kshape⟩, pts⟩, ha⟩ : ∃ x, L[m]? = some x := ⟨_, List.getElem?_eq_getElem hin⟩
      obtain ⟨q, hq⟩ : ∃ q, pl[m]? = some q := ⟨_, List.getElem?_eq_getElem (by rw [HPL.out]; exact hin)⟩
      obtain ⟨q', hq'⟩ : ∃ q, kl[m]? = some q := ⟨_, List.getElem?_eq_getElem (by rw [HKL.out]; exact hin)⟩
      obtain ⟨A5, n5, c5, hk5, _⟩ := HSH.out _ (List.mem_of_getElem? ha)
      obtain rfl : kshape = .slice A5 n5 c5 := hk5
      obtain ⟨b9, o, hAe, hbB, hlc⟩ := Rd.lnk HRD.out (i := m) (k := ⟨klen, klow, khigh, kspeed, kbrake, .slice A5 n5 c5⟩) (by
        show (L.map (·.1))[m]? = _
        rw [HKS.out, ha]; rfl)
      have hbw := hI.bel
      have hlc := hlc.below hbw hbB
      have hbn : b9 < wq.heap.size := Nat.lt_of_lt_of_le hbB hbw.size
      obtain ⟨f0, f1, f2, f3, f4, f5, f6, f7, f8, f9, f10, f11, f12, f13, f14, f15⟩ := hlc
      subst hAe
      have HTQ := Lib.hid (tabs w HT.out hbw)
      have ls : kspeed.le N := (HLK.out _ (List.mem_of_getElem? ha)).2.2.2.1
      have lq := HLP.out q (List.mem_of_getElem? hq)
      have lq' := HLQ.out q' (List.mem_of_getElem? hq')
      obtain ⟨d, qd, _, ld, SU⟩ := subR wq HTQ.out q' q lq' lq
      obtain ⟨u, qu, _, lu, AB⟩ := absR wq HTQ.out d ld
      obtain ⟨v, qv, _, lv, MU⟩ := mulR wq HTQ.out kspeed zt ls HLT.out
      obtain ⟨k1, _, p1, _, C1⟩ := cmpR wq HTQ.out u v lu lv
      have HP := Lib.hid (show (¬ k1 > 0 ↔ absQ (q'.q - q.q) ≤ kspeed.q * ((kt - pt : Int) : Rat)) from by
        show ¬ 0 < k1 ↔ _
        rw [p1, qu, qd, qv, HQT.out]
        exact Rat.not_lt)
      obtain ⟨bq2, oq, hAq, hbq, x0, x1, x2⟩ := Rd.quot HRP.out hq
      obtain ⟨bk2, ok, hAk, hbk, y0, y1, y2⟩ := Rd.quot HRK.out hq'
      subst hAq hAk
      have i0 := hI.cell (k := 2) (i := 1) rfl rfl
      have i1 := hI.cell (k := 1) (i := 1) rfl rfl
      have i7a := hI.cell (k := 0) (i := 0) rfl rfl
      have i7b := hI.cell (k := 0) (i := 1) rfl rfl
      have i7c := hI.cell (k := 0) (i := 2) rfl rfl
      have m0 := hI.lt (k := 2) rfl
      have m1 := hI.lt (k := 1) rfl
      have m7 := hI.lt (k := 0) rfl
      have E := Lib.hid (fun W (hW : Below wq.heap.size wq W) => (⟨(hW.cell (p := ⟨w.heap.size + 1, 1, none⟩) m0).trans i0, (hW.cell (p := ⟨w.heap.size + 1 + 1, 1, none⟩) m1).trans i1, (hW.cell (p := ⟨g7, 0, none⟩) m7).trans i7a, (hW.cell (p := ⟨g7, 1, none⟩) m7).trans i7b, (hW.cell (p := ⟨g7, 2, none⟩) m7).trans i7c,
        ((hbw.trans (hW.mono hbw.size)).cell (p := ⟨bq2, oq + m * 3, none⟩) hbq).trans x0, ((hbw.trans (hW.mono hbw.size)).cell (p := ⟨bq2, oq + m * 3 + 1, none⟩) hbq).trans x1, ((hbw.trans (hW.mono hbw.size)).cell (p := ⟨bq2, oq + m * 3 + 2, none⟩) hbq).trans x2, ((hbw.trans (hW.mono hbw.size)).cell (p := ⟨bk2, ok + m * 3, none⟩) hbk).trans y0, ((hbw.trans (hW.mono hbw.size)).cell (p := ⟨bk2, ok + m * 3 + 1, none⟩) hbk).trans y1, ((hbw.trans (hW.mono hbw.size)).cell (p := ⟨bk2, ok + m * 3 + 2, none⟩) hbk).trans y2,
        Nat.lt_of_lt_of_le hbq (hbw.trans (hW.mono hbw.size)).size, Nat.lt_of_lt_of_le hbk (hbw.trans (hW.mono hbw.size)).size⟩ : And _ (And _ (And _ (And _ (And _ (And _ (And _ (And _ (And _ (And _ (And _ (And _ _)))))))))))))
      have hwk : IntKind.i64.wrap ((m : Int) + 1) = (m : Int) + 1 := by rw [IntKind.wrap_i64]; omega
      have HBAD := Lib.hid (show ¬ absQ (q'.q - q.q) ≤ kspeed.q * ((kt - pt : Int) : Rat) → (false = true ↔ SlowP L (pt, .slice (some ⟨bq2, oq, none⟩) pl.length Cp, pl) (kt, .slice (some ⟨bk2, ok, none⟩) kl.length Ck, kl)) from fun h => ⟨(fun h => by cases h), fun hs => absurd (hs m _ q q' ha hq hq') h⟩)
      have HI := Lib.hid hI
      have HN := Lib.hid (show absQ (q'.q - q.q) ≤ kspeed.q * ((kt - pt : Int) : Rat) → ∀ W, Below wq.heap.size wq W → SwRel w _ L (pt, .slice (some ⟨bq2, oq, none⟩) pl.length Cp, pl) (kt, .slice (some ⟨bk2, ok, none⟩) kl.length Ck, kl) (.int .i64 ((m : Int) + 1)) W from fun h W hW => ⟨m + 1, hin, by simp, fun j x y y' hj h1 h2 h3 => by
        rcases Nat.lt_succ_iff_lt_or_eq.mp hj with h4 | h4
        · exact hok j x y y' h4 h1 h2 h3
        · subst h4
          have h2 : pl[j]? = some y := h2
          have h3 : kl[j]? = some y' := h3
          rw [ha] at h1
          rw [hq] at h2
          rw [hq'] at h3
          cases h1
          cases h2
          cases h3
          exact h, HI.out.call hW⟩)
      have HB := Lib.hid hbw
      have hJ := (In.start wq).alloc 28 #[.bool klen.neg, .string klen.num, .string klen.den, .bool klow.neg, .string klow.num, .string klow.den, .bool khigh.neg, .string khigh.num, .string khigh.den, .bool kspeed.neg, .string kspeed.num, .string kspeed.den, .bool kbrake.neg, .string kbrake.num, .string kbrake.den, .slice A5 n5 c5]
      obtain ⟨g9, hg9⟩ : ∃ g, g = wq.heap.size := ⟨_, rfl⟩
      clear hok ha hq hq' hbq hbk x0 x1 x2 y0 y1 y2 ls lq lq' qd ld qu lu qv lv p1 hI hbw i0 i1 i7a i7b i7c m0 m1 m7
      go_upto_region 5 with (fail)
      clear f0 f1 f2 f3 f4 f5 f6 f7 f8 f9 f10 f11 f12 f13 f14 f15 hbn hbB
      rw [← hg9] at hJ ⊢
      generalize World.alloc _ _ = W5 at hJ ⊢
      clear hg9
      by_cases hk1 : k1 > 0
      · as_aux_lemma =>
        have HX := Lib.hid (HBAD.out (fun h => (HP.out.mpr h) hk1))
        refine wp_region_in hJ (by kernel_rfl) (by kernel_rfl) ?_
        repeat (first
          | (refine wpSeq_off (by rfl) ?_; try simp only [Act.put, List.setIfInBounds_toArray, List.set_cons_zero, List.set_cons_succ])
          | (refine wpSeq_val (v := ?_) (by rfl) (fun W hS => ?_) ?_
             rotate_left
             · (have fx := hS.facts; simp only [factsOf, cellsOf, Nat.zero_add, Nat.reduceAdd] at fx; have fy0 := E.out W hS.bel; clear hS; go_simp; first | done | with_reducible rfl)
             try simp only [Act.put, List.setIfInBounds_toArray, List.set_cons_zero, List.set_cons_succ]))
        refine wpSeq_call (v := .agg #[.bool d.neg, .string d.num, .string d.den]) (by rfl) (fun W hS => ?_) (fun W hS => (SU.out W hS.bel)) ?_
        · (clear hS; go_simp; done)
        try simp only [Act.put, List.setIfInBounds_toArray, List.set_cons_zero, List.set_cons_succ]
        repeat (first
          | (refine wpSeq_off (by rfl) ?_; try simp only [Act.put, List.setIfInBounds_toArray, List.set_cons_zero, List.set_cons_succ])
          | (refine wpSeq_val (v := ?_) (by rfl) (fun W hS => ?_) ?_
             rotate_left
             · (have fx := hS.facts; simp only [factsOf, cellsOf, Nat.zero_add, Nat.reduceAdd] at fx; have fy0 := E.out W hS.bel; clear hS; go_simp; first | done | with_reducible rfl)
             try simp only [Act.put, List.setIfInBounds_toArray, List.set_cons_zero, List.set_cons_succ]))
        refine wpSeq_call (v := .agg #[.bool u.neg, .string u.num, .string u.den]) (by rfl) (fun W hS => ?_) (fun W hS => (AB.out W hS.bel)) ?_
        · (clear hS; go_simp; done)
        try simp only [Act.put, List.setIfInBounds_toArray, List.set_cons_zero, List.set_cons_succ]
        repeat (first
          | (refine wpSeq_off (by rfl) ?_; try simp only [Act.put, List.setIfInBounds_toArray, List.set_cons_zero, List.set_cons_succ])
          | (refine wpSeq_val (v := ?_) (by rfl) (fun W hS => ?_) ?_
             rotate_left
             · (have fx := hS.facts; simp only [factsOf, cellsOf, Nat.zero_add, Nat.reduceAdd] at fx; have fy0 := E.out W hS.bel; clear hS; go_simp; first | done | with_reducible rfl)
             try simp only [Act.put, List.setIfInBounds_toArray, List.set_cons_zero, List.set_cons_succ]))
        refine wpSeq_call (v := .agg #[.bool v.neg, .string v.num, .string v.den]) (by rfl) (fun W hS => ?_) (fun W hS => (MU.out W hS.bel)) ?_
        · (clear hS; go_simp; done)
        try simp only [Act.put, List.setIfInBounds_toArray, List.set_cons_zero, List.set_cons_succ]
        repeat (first
          | (refine wpSeq_off (by rfl) ?_; try simp only [Act.put, List.setIfInBounds_toArray, List.set_cons_zero, List.set_cons_succ])
          | (refine wpSeq_val (v := ?_) (by rfl) (fun W hS => ?_) ?_
             rotate_left
             · (have fx := hS.facts; simp only [factsOf, cellsOf, Nat.zero_add, Nat.reduceAdd] at fx; have fy0 := E.out W hS.bel; clear hS; go_simp; first | done | with_reducible rfl)
             try simp only [Act.put, List.setIfInBounds_toArray, List.set_cons_zero, List.set_cons_succ]))
        refine wpSeq_call (v := .int .i64 k1) (by rfl) (fun W hS => ?_) (fun W hS => (C1.out W hS.bel)) ?_
        · (clear hS; go_simp; done)
        try simp only [Act.put, List.setIfInBounds_toArray, List.set_cons_zero, List.set_cons_succ]
        repeat (first
          | (refine wpSeq_off (by rfl) ?_; try simp only [Act.put, List.setIfInBounds_toArray, List.set_cons_zero, List.set_cons_succ])
          | (refine wpSeq_val (v := ?_) (by rfl) (fun W hS => ?_) ?_
             rotate_left
             · (have fx := hS.facts; simp only [factsOf, cellsOf, Nat.zero_add, Nat.reduceAdd] at fx; have fy0 := E.out W hS.bel; clear hS; go_simp; first | done | with_reducible rfl)
             try simp only [Act.put, List.setIfInBounds_toArray, List.set_cons_zero, List.set_cons_succ]))
        refine wpSeq_nil (fun W hS => ?_)
        have hfin := HB.out.trans (hS.bel.mono HB.out.size)
        clear hS hJ E SU AB MU C1
        go_wp2
        go_ret
        exact ⟨false, rfl, HX.out, hfin⟩
      · as_aux_lemma =>
        have HX := Lib.hid (HN.out (HP.out.mp hk1))
        refine wp_region_in hJ (by kernel_rfl) (by kernel_rfl) ?_
        repeat (first
          | (refine wpSeq_off (by rfl) ?_; try simp only [Act.put, List.setIfInBounds_toArray, List.set_cons_zero, List.set_cons_succ])
          | (refine wpSeq_val (v := ?_) (by rfl) (fun W hS => ?_) ?_
             rotate_left
             · (have fx := hS.facts; simp only [factsOf, cellsOf, Nat.zero_add, Nat.reduceAdd] at fx; have fy0 := E.out W hS.bel; clear hS; go_simp; first | done | with_reducible rfl)
             try simp only [Act.put, List.setIfInBounds_toArray, List.set_cons_zero, List.set_cons_succ]))
        refine wpSeq_call (v := .agg #[.bool d.neg, .string d.num, .string d.den]) (by rfl) (fun W hS => ?_) (fun W hS => (SU.out W hS.bel)) ?_
        · (clear hS; go_simp; done)
        try simp only [Act.put, List.setIfInBounds_toArray, List.set_cons_zero, List.set_cons_succ]
        repeat (first
          | (refine wpSeq_off (by rfl) ?_; try simp only [Act.put, List.setIfInBounds_toArray, List.set_cons_zero, List.set_cons_succ])
          | (refine wpSeq_val (v := ?_) (by rfl) (fun W hS => ?_) ?_
             rotate_left
             · (have fx := hS.facts; simp only [factsOf, cellsOf, Nat.zero_add, Nat.reduceAdd] at fx; have fy0 := E.out W hS.bel; clear hS; go_simp; first | done | with_reducible rfl)
             try simp only [Act.put, List.setIfInBounds_toArray, List.set_cons_zero, List.set_cons_succ]))
        refine wpSeq_call (v := .agg #[.bool u.neg, .string u.num, .string u.den]) (by rfl) (fun W hS => ?_) (fun W hS => (AB.out W hS.bel)) ?_
        · (clear hS; go_simp; done)
        try simp only [Act.put, List.setIfInBounds_toArray, List.set_cons_zero, List.set_cons_succ]
        repeat (first
          | (refine wpSeq_off (by rfl) ?_; try simp only [Act.put, List.setIfInBounds_toArray, List.set_cons_zero, List.set_cons_succ])
          | (refine wpSeq_val (v := ?_) (by rfl) (fun W hS => ?_) ?_
             rotate_left
             · (have fx := hS.facts; simp only [factsOf, cellsOf, Nat.zero_add, Nat.reduceAdd] at fx; have fy0 := E.out W hS.bel; clear hS; go_simp; first | done | with_reducible rfl)
             try simp only [Act.put, List.setIfInBounds_toArray, List.set_cons_zero, List.set_cons_succ]))
        refine wpSeq_call (v := .agg #[.bool v.neg, .string v.num, .string v.den]) (by rfl) (fun W hS => ?_) (fun W hS => (MU.out W hS.bel)) ?_
        · (clear hS; go_simp; done)
        try simp only [Act.put, List.setIfInBounds_toArray, List.set_cons_zero, List.set_cons_succ]
        repeat (first
          | (refine wpSeq_off (by rfl) ?_; try simp only [Act.put, List.setIfInBounds_toArray, List.set_cons_zero, List.set_cons_succ])
          | (refine wpSeq_val (v := ?_) (by rfl) (fun W hS => ?_) ?_
             rotate_left
             · (have fx := hS.facts; simp only [factsOf, cellsOf, Nat.zero_add, Nat.reduceAdd] at fx; have fy0 := E.out W hS.bel; clear hS; go_simp; first | done | with_reducible rfl)
             try simp only [Act.put, List.setIfInBounds_toArray, List.set_cons_zero, List.set_cons_succ]))
        refine wpSeq_call (v := .int .i64 k1) (by rfl) (fun W hS => ?_) (fun W hS => (C1.out W hS.bel)) ?_
        · (clear hS; go_simp; done)
        try simp only [Act.put, List.setIfInBounds_toArray, List.set_cons_zero, List.set_cons_succ]
        repeat (first
          | (refine wpSeq_off (by rfl) ?_; try simp only [Act.put, List.setIfInBounds_toArray, List.set_cons_zero, List.set_cons_succ])
          | (refine wpSeq_val (v := ?_) (by rfl) (fun W hS => ?_) ?_
             rotate_left
             · (have fx := hS.facts; simp only [factsOf, cellsOf, Nat.zero_add, Nat.reduceAdd] at fx; have fy0 := E.out W hS.bel; clear hS; go_simp; first | done | with_reducible rfl)
             try simp only [Act.put, List.setIfInBounds_toArray, List.set_cons_zero, List.set_cons_succ]))
        refine wpSeq_nil (fun W hS => ?_)
        have HX2 := Lib.hid (HX.out _ hS.bel)
        clear hS hJ E SU AB MU C1 HX
        go_wp2_with fail
        go_roundw
        case rel => exact HX2.out
        case measure => simp [intOf]; omega
    · obtain rfl : m = L.length := by omega
      have hi1 : ¬ (L.length : Int) < (L.length : Int) := by omega
      have HX := Lib.hid (show SlowP L (pt, .slice Ap pl.length Cp, pl) (kt, .slice Ak kl.length Ck, kl) from fun j x q q' h1 h2 h3 => hok j x q q' (List.getElem?_eq_some_iff.1 h1).1 h1 h2 h3)
      have hfin := hI.bel
      clear hI hok
      go_wp2
      go_ret
      exact ⟨true, rfl, ⟨fun _ => HX.out, fun _ => rfl⟩, hfin⟩
theorem SlowPost.both {w w' : World} {L : List (Lk × List P2)} {p k : Ky} {e : Ending} (h : SlowPost w L p k e w') : (e = .returned (.bool true) ∧ SlowP L p k ∧ Below w.heap.size w w') ∨ (e = .returned (.bool false) ∧ ¬ SlowP L p k ∧ Below w.heap.size w w') := by
  obtain ⟨b, h1, h2, h3⟩ := h
  cases b
  · exact .inr ⟨h1, fun h => (by cases h2.mpr h), h3⟩
  · exact .inl ⟨h1, h2.mp rfl, h3⟩
/-- what track.Check says of a key behind prev -/
def KeyE (a : Ar) (prev : Option Ky) (k : Ky) (e : Int) : Prop :=
  (¬ (0 ≤ k.1 ∧ k.1 ≤ 2000) ∧ e = 1) ∨ ((0 ≤ k.1 ∧ k.1 ≤ 2000) ∧ ∃ f, AFitE a k.2.2 f ∧ ((f ≠ 0 ∧ e = f) ∨ (f = 0 ∧ prev = none ∧ e = 0) ∨
    (f = 0 ∧ ∃ p, prev = some p ∧ ((k.1 ≤ p.1 ∧ e = 9) ∨ (p.1 < k.1 ∧ ¬ SlowP a.L p k ∧ e = 19) ∨ (p.1 < k.1 ∧ SlowP a.L p k ∧ e = 0)))))
def KeysE (a : Ar) : Option Ky → List Ky → Int → Prop
  | _, [], e => e = 0
  | prev, k :: r, e => ∃ c, KeyE a prev k c ∧ ((c ≠ 0 ∧ e = c) ∨ (c = 0 ∧ KeysE a (some k) r e))
def TrackE (a : Ar) (K : List Ky) (e : Int) : Prop := ∃ c, ArmE a c ∧ ((c ≠ 0 ∧ e = c) ∨ (c = 0 ∧ K = [] ∧ e = 14) ∨ (c = 0 ∧ K ≠ [] ∧ 60 < K.length ∧ e = 2) ∨ (c = 0 ∧ K ≠ [] ∧ K.length ≤ 60 ∧ KeysE a none K e))
theorem KeyE.uniq {a : Ar} {prev : Option Ky} {k : Ky} {e e' : Int} (h : KeyE a prev k e) (h' : KeyE a prev k e') : e = e' := by
  rcases h with ⟨h1, h2⟩ | ⟨h1, f, h2, h3⟩
  · rcases h' with ⟨g1, g2⟩ | ⟨g1, _⟩
    · omega
    · exact absurd g1 h1
  · rcases h' with ⟨g1, g2⟩ | ⟨_, f', g2, g3⟩
    · exact absurd h1 g1
    · obtain rfl := h2.uniq g2
      rcases h3 with ⟨k1, k2⟩ | ⟨k1, k2, k3⟩ | ⟨k1, p, k2, k3⟩
      · rcases g3 with ⟨l1, l2⟩ | ⟨l1, _⟩ | ⟨l1, _⟩
        · omega
        · exact absurd l1 k1
        · exact absurd l1 k1
      · rcases g3 with ⟨l1, l2⟩ | ⟨l1, l2, l3⟩ | ⟨l1, p, l2, _⟩
        · exact absurd k1 l1
        · omega
        · rw [k2] at l2
          cases l2
      · rcases g3 with ⟨l1, l2⟩ | ⟨l1, l2, l3⟩ | ⟨l1, p', l2, l3⟩
        · exact absurd k1 l1
        · rw [k2] at l2
          cases l2
        · rw [k2] at l2
          cases l2
          rcases k3 with ⟨m1, m2⟩ | ⟨m1, m2, m3⟩ | ⟨m1, m2, m3⟩
          · rcases l3 with ⟨o1, o2⟩ | ⟨o1, _⟩ | ⟨o1, _⟩ <;> omega
          · rcases l3 with ⟨o1, o2⟩ | ⟨_, _, o3⟩ | ⟨_, o2, _⟩
            · omega
            · omega
            · exact absurd o2 m2
          · rcases l3 with ⟨o1, o2⟩ | ⟨_, o2, _⟩ | ⟨_, _, o3⟩
            · omega
            · exact absurd m2 o2
            · omega
theorem KeysE.uniq {a : Ar} : ∀ {K : List Ky} {prev : Option Ky} {e e' : Int}, KeysE a prev K e → KeysE a prev K e' → e = e'
  | [], _, e, e', h, h' => by
    have h1 : e = 0 := h
    have h2 : e' = 0 := h'
    omega
  | k :: r, prev, e, e', ⟨c, h1, h2⟩, ⟨c', g1, g2⟩ => by
    obtain rfl := h1.uniq g1
    rcases h2 with ⟨h3, h4⟩ | ⟨h3, h4⟩
    · rcases g2 with ⟨g3, g4⟩ | ⟨g3, _⟩
      · omega
      · exact absurd g3 h3
    · rcases g2 with ⟨g3, _⟩ | ⟨_, g4⟩
      · exact absurd h3 g3
      · exact KeysE.uniq h4 g4
theorem TrackE.uniq {a : Ar} {K : List Ky} {e e' : Int} (h : TrackE a K e) (h' : TrackE a K e') : e = e' := by
  obtain ⟨c, h1, h2⟩ := h
  obtain ⟨c', g1, g2⟩ := h'
  obtain rfl := h1.uniq g1
  rcases h2 with ⟨k1, k2⟩ | ⟨k1, k2, k3⟩ | ⟨k1, k2, k3, k4⟩ | ⟨k1, k2, k3, k4⟩
  · rcases g2 with ⟨l1, l2⟩ | ⟨l1, _⟩ | ⟨l1, _⟩ | ⟨l1, _⟩
    · omega
    all_goals exact absurd l1 k1
  · rcases g2 with ⟨l1, _⟩ | ⟨_, _, l3⟩ | ⟨_, l2, _⟩ | ⟨_, l2, _⟩
    · exact absurd k1 l1
    · omega
    · exact absurd k2 l2
    · exact absurd k2 l2
  · rcases g2 with ⟨l1, _⟩ | ⟨_, l2, _⟩ | ⟨_, _, _, l3⟩ | ⟨_, _, l3, _⟩
    · exact absurd k1 l1
    · exact absurd l2 k2
    · omega
    · omega
  · rcases g2 with ⟨l1, _⟩ | ⟨_, l2, _⟩ | ⟨_, _, l3, _⟩ | ⟨_, _, _, l4⟩
    · exact absurd k1 l1
    · exact absurd l2 k2
    · omega
    · exact k4.uniq l4
theorem KeysE.zero {a : Ar} : ∀ {K : List Ky} {prev : Option Ky}, KeysE a prev K 0 → (∀ k ∈ K, 0 ≤ k.1 ∧ k.1 ≤ 2000 ∧ AFitE a k.2.2 0) ∧ (∀ (i : Nat) (x y : Ky), K[i]? = some x → K[i + 1]? = some y → x.1 < y.1 ∧ SlowP a.L x y) ∧ ∀ p k, prev = some p → K[0]? = some k → p.1 < k.1 ∧ SlowP a.L p k
  | [], _, _ => ⟨fun k h => (by cases h), fun i x y h => by simp at h, fun p k _ h => by simp at h⟩
  | k :: r, prev, ⟨c, h1, h2⟩ => by
    have hc : c = 0 := by
      rcases h2 with ⟨h3, h4⟩ | ⟨h3, _⟩
      · exact absurd h4.symm h3
      · exact h3
    subst hc
    have hr : KeysE a (some k) r 0 := by
      rcases h2 with ⟨h3, _⟩ | ⟨_, h4⟩
      · exact absurd rfl h3
      · exact h4
    obtain ⟨i1, i2, i3⟩ := KeysE.zero hr
    have hk : (0 ≤ k.1 ∧ k.1 ≤ 2000 ∧ AFitE a k.2.2 0) ∧ ∀ p, prev = some p → p.1 < k.1 ∧ SlowP a.L p k := by
      rcases h1 with ⟨_, g2⟩ | ⟨g1, f, g2, g3⟩
      · omega
      · rcases g3 with ⟨l1, l2⟩ | ⟨l1, l2, _⟩ | ⟨l1, p, l2, l3⟩
        · exact absurd l2.symm l1
        · subst l1
          exact ⟨⟨g1.1, g1.2, g2⟩, fun p hp => by rw [l2] at hp; cases hp⟩
        · subst l1
          refine ⟨⟨g1.1, g1.2, g2⟩, fun p' hp => ?_⟩
          rw [l2] at hp
          cases hp
          rcases l3 with ⟨_, o⟩ | ⟨_, _, o⟩ | ⟨o1, o2, _⟩
          · omega
          · omega
          · exact ⟨o1, o2⟩
    refine ⟨fun x hx => ?_, fun i x y hx hy => ?_, fun p x hp hx => ?_⟩
    · rcases List.mem_cons.1 hx with rfl | h
      · exact hk.1
      · exact i1 x h
    · rcases i with _ | i
      · have : k = x := by simpa using hx
        subst this
        exact i3 _ y rfl (by simpa using hy)
      · exact i2 i x y (by simpa using hx) (by simpa using hy)
    · have : k = x := by simpa using hx
      subst this
      exact hk.2 p hp
theorem TrackE.zero {a : Ar} {K : List Ky} (h : TrackE a K 0) : ArmE a 0 ∧ K ≠ [] ∧ K.length ≤ 60 ∧ KyOk K ∧ (∀ k ∈ K, AFitE a k.2.2 0) ∧ ∀ (i : Nat) (x y : Ky), K[i]? = some x → K[i + 1]? = some y → SlowP a.L x y := by
  obtain ⟨c, h1, ⟨h2, h3⟩ | ⟨_, _, h3⟩ | ⟨_, _, _, h3⟩ | ⟨h2, h3, h4, h5⟩⟩ := h
  · exact absurd h3.symm h2
  · omega
  · omega
  · subst h2
    obtain ⟨k1, k2, _⟩ := h5.zero
    exact ⟨h1, h3, h4, ⟨fun k hk => ⟨(k1 k hk).1, (k1 k hk).2.1⟩, fun i x y hx hy => (k2 i x y hx hy).1⟩, fun k hk => (k1 k hk).2.2, fun i x y hx hy => (k2 i x y hx hy).2⟩
end Go.Proofs.YtnnbnecpcppkdaaDoor
namespace Go.Proofs.YtnnbnecpcppkdaaDoor
open Go.RowKit Go.Gy
set_option linter.unusedVariables false
set_option linter.unusedSimpArgs false
def prevK (K : List Ky) : Nat → Option Ky
  | 0 => none
  | i + 1 => K[i]?
def CkRel (w : World) (ls : List (Nat × TypeId × Array Value)) (a : Ar) (K : List Ky) (i : Value) (wr : World) : Prop := ∃ m : Nat, m ≤ K.length ∧ i = .int .i64 m ∧ (∀ (j : Nat) (x : Ky), j < m → K[j]? = some x → AFitE a x.2.2 0 ∧ 0 ≤ x.1 ∧ x.1 ≤ 2000) ∧ (∀ e, KeysE a (prevK K m) (K.drop m) e → KeysE a none K e) ∧ In w ls wr
set_option maxRecDepth 100000 in
set_option maxHeartbeats 8000000 in
theorem trackCheck_any (w : World) (hT : TabW w) (a : Ar) (v : Value) (K : List Ky) {N : Nat} (hA : a.At w w.heap.size) (hle : a.le N) (hv : SlK w w.heap.size v K) (hl : KyLe K N) (hti : ∀ k ∈ K, InI k.1) (hN : 1 ≤ N ∧ N ≤ 68719476736) :
    Calls Tryd.prog 56 #[a.val, v] w fun r w' => ∃ e, r = .returned (.int .i64 e) ∧ TrackE a K e ∧ Below w.heap.size w w' := by
  have HT := Lib.hid hT
  have HCK := Lib.hid (fun W (hW : Below w.heap.size w W) => armCheck_any W (tabs w hT hW) a (hA.up hW) hle hN)
  have HFI := Lib.hid (fun W (hW : Below w.heap.size w W) (k : Ky) (hk : k ∈ K) (hq : SlQ W W.heap.size k.2.1 k.2.2) => afits_any W (tabs w hT hW) a (hA.up hW) hle k.2.1 k.2.2 hq (hl k hk).1 hN)
  have HSL := Lib.hid (fun W (hW : Below w.heap.size w W) (p k : Ky) (hpk : p ∈ K ∧ k ∈ K) (hp : SlQ W W.heap.size p.2.1 p.2.2) (hq : SlQ W W.heap.size k.2.1 k.2.2) h1 h2 h3 h4 h5 => slow_any W (tabs w hT hW) a p k (hA.up hW) hle hp hq (hl p hpk.1).1 (hl k hpk.2).1 h1 h2 h3 h4 h5 hN)
  obtain ⟨Av, nv, Cv, rfl, hnv, hcv, _, hrv, hqs⟩ := hv
  subst hnv
  have HRV := Lib.hid hrv
  have HQS := Lib.hid hqs
  have HTI := Lib.hid hti
  obtain ⟨ar, har⟩ : ∃ ar, ar = a := ⟨_, rfl⟩
  rw [← har] at HCK HFI HSL ⊢
  obtain ⟨nm, ⟨px, py⟩, hf, t, va, L⟩ := a
  obtain ⟨⟨A, N9, C, hva, hNL, hNC, _, hrd⟩, hshp⟩ := hA
  obtain rfl : va = .slice A N9 C := hva
  have hval : ar.val = .agg #[.string nm, .bool px.neg, .string px.num, .string px.den, .bool py.neg, .string py.num, .string py.den, .bool hf, .bool t.neg, .string t.num, .string t.den, .slice A N9 C] := by rw [har]; rfl
  rw [hval] at HCK HFI HSL ⊢
  have hI := (In.start w).alloc 37 #[.string nm, .bool px.neg, .string px.num, .string px.den, .bool py.neg, .string py.num, .string py.den, .bool hf, .bool t.neg, .string t.num, .string t.den, .slice A N9 C]
  clear hval har hNL hle hT hrd hshp hrv hqs hl hti
  go_enter Tryd.func56, Tryd.ntmps56
  go_upto_region 1 with (fail)
  generalize World.alloc _ _ = W1 at hI ⊢
  have fx := hI.facts
  simp only [factsOf, cellsOf, Nat.zero_add, Nat.reduceAdd] at fx
  go_wp2_with fail
  refine (HCK.out _ hI.bel).mono ?_
  rintro e wn ⟨c, rfl, hc, hb⟩
  replace hI := hI.call hb
  clear hb fx HCK
  by_cases h0 : c = 0
  · subst h0
    have HC := Lib.hid hc
    clear hc
    by_cases hK0 : K = []
    · have HX := Lib.hid (show TrackE ar K 14 from ⟨0, HC.out, .inr (.inl ⟨rfl, hK0, rfl⟩)⟩)
      have hl0 : K.length = 0 := by rw [hK0]; rfl
      have hne : ((K.length : Int) == 0) = true := by rw [hl0]; rfl
      have hfin := hI.bel
      clear hI hK0 hl0
      go_wp2
      go_ret
      exact ⟨14, rfl, HX.out, hfin⟩
    · have HNE := Lib.hid hK0
      have hlen : 1 ≤ K.length := by
        rcases K with _ | ⟨k0, K0⟩
        · exact absurd rfl hK0
        · simp
      clear hK0
      have hne : ((K.length : Int) == 0) = false := by
        have : ¬ (K.length : Int) = 0 := by omega
        simpa using this
      by_cases h60 : 60 < K.length
      · have hgt : (K.length : Int) > 60 := by omega
        have hgt2 : 60 < (K.length : Int) := by omega
        have HX := Lib.hid (show TrackE ar K 2 from ⟨0, HC.out, .inr (.inr (.inl ⟨rfl, HNE.out, h60, rfl⟩))⟩)
        have hfin := hI.bel
        clear hI
        go_wp2
        go_ret
        exact ⟨2, rfl, HX.out, hfin⟩
      · have hgt : ¬ (K.length : Int) > 60 := by omega
        have hgt2 : ¬ 60 < (K.length : Int) := by omega
        have HTE := Lib.hid (show ∀ e, KeysE ar none K e → TrackE ar K e from fun e h => ⟨0, HC.out, .inr (.inr (.inr ⟨rfl, HNE.out, by omega, h⟩))⟩)
        have hst := Lib.hid (show CkRel w _ ar K (.int .i64 0) wn from ⟨0, Nat.zero_le _, rfl, fun j x h => absurd h (Nat.not_lt_zero j), fun e h => h, hI⟩)
        have hk60 : K.length ≤ 60 := by omega
        clear hI h60
        go_wp2_with fail
        go_loopw [22] (fun i wr => CkRel w [(w.heap.size, 37, #[.string nm, .bool px.neg, .string px.num, .string px.den, .bool py.neg, .string py.num, .string py.den, .bool hf, .bool t.neg, .string t.num, .string t.den, .slice A N9 C])] ar K i wr) (fun i _ => K.length - (intOf i).toNat)
        case atStart => exact hst.out
        case round =>
          clear hst
          obtain ⟨m, hm, rfl, hok, hke, hI⟩ := hrel
          obtain ⟨wq, rfl⟩ : ∃ wq, wq = wr := ⟨_, rfl⟩
          by_cases hin : m < K.length
          · have hi1 : (m : Int) < (K.length : Int) := by omega
            have hi2 : 0 ≤ (m : Int) ∧ (m : Int) < (K.length : Int) := by omega
            obtain ⟨⟨kt, kv, kl⟩, hk⟩ : ∃ x, K[m]? = some x := ⟨_, List.getElem?_eq_getElem hin⟩
            have hkm := List.mem_of_getElem? hk
            obtain ⟨Ak, nk, Ck, hkv, hnk, _⟩ := id (HQS.out _ hkm)
            have hkv : kv = .slice Ak nk Ck := hkv
            have hnk : kl.length = nk := hnk
            subst hnk
            subst hkv
            obtain ⟨b, o, hAv, hbB, e0, e1⟩ := Rd.key HRV.out hk
            subst hAv
            have e1 : w.cell? ⟨b, o + m * 2 + 1, none⟩ = some (.slice Ak kl.length Ck) := e1
            have e0 : w.cell? ⟨b, o + m * 2, none⟩ = some (.int .i64 kt) := e0
            have hbw := hI.bel
            have d0 := (hbw.cell (p := ⟨b, o + m * 2, none⟩) hbB).trans e0
            have d1 := (hbw.cell (p := ⟨b, o + m * 2 + 1, none⟩) hbB).trans e1
            have hbn : b < wq.heap.size := Nat.lt_of_lt_of_le hbB hbw.size
            have hti : -9223372036854775808 ≤ kt ∧ kt ≤ 9223372036854775807 := HTI.out _ hkm
            have HDK := Lib.hid (show K.drop m = (kt, .slice Ak kl.length Ck, kl) :: K.drop (m + 1) from by rw [List.drop_eq_getElem_cons hin]; congr 1; exact Option.some.inj ((List.getElem?_eq_getElem hin).symm.trans hk))
            have HBAD := Lib.hid (show ∀ e, e ≠ 0 → KeyE ar (prevK K m) (kt, .slice Ak kl.length Ck, kl) e → TrackE ar K e from fun e h0 h => HTE.out e (hke e (by
              rw [HDK.out]
              exact ⟨e, h, .inl ⟨h0, rfl⟩⟩)))
            have hwk : IntKind.i64.wrap ((m : Int) + 1) = (m : Int) + 1 := by rw [IntKind.wrap_i64]; omega
            have HI := Lib.hid hI
            have HN := Lib.hid (show KeyE ar (prevK K m) (kt, .slice Ak kl.length Ck, kl) 0 → (0 ≤ kt ∧ kt ≤ 2000) → AFitE ar kl 0 → ∀ W, In w [(w.heap.size, 37, #[.string nm, .bool px.neg, .string px.num, .string px.den, .bool py.neg, .string py.num, .string py.den, .bool hf, .bool t.neg, .string t.num, .string t.den, .slice A N9 C])] W → CkRel w [(w.heap.size, 37, #[.string nm, .bool px.neg, .string px.num, .string px.den, .bool py.neg, .string py.num, .string py.den, .bool hf, .bool t.neg, .string t.num, .string t.den, .slice A N9 C])] ar K (.int .i64 ((m : Int) + 1)) W from fun h h1 h2 W hW => ⟨m + 1, hin, by simp, fun j x hj hx => by
              rcases Nat.lt_succ_iff_lt_or_eq.mp hj with h3 | h3
              · exact hok j x h3 hx
              · subst h3
                rw [hk] at hx
                cases hx
                exact ⟨h2, h1⟩, fun e he => hke e (by
              rw [HDK.out]
              have hp : prevK K (m + 1) = some (kt, .slice Ak kl.length Ck, kl) := hk
              rw [hp] at he
              exact ⟨0, h, .inr ⟨rfl, he⟩⟩), hW⟩)
            have HB := Lib.hid hbw
            have HOK := Lib.hid hok
            have HKM := Lib.hid hkm
            have hJ := hI.alloc 89 #[.int .i64 kt, .slice Ak kl.length Ck]
            obtain ⟨g7, hg7⟩ : ∃ g, g = wq.heap.size := ⟨_, rfl⟩
            have HBQ := Lib.hid (show ∀ W, In wq [] W → Below wq.heap.size wq W from fun W h => h.bel)
            have hba : Below wq.heap.size wq (wq.alloc (.cells #[.int .i64 kt, .slice Ak kl.length Ck] 89)) := (Below.refl _ _).alloc (Nat.le_refl _) _
            clear hok hke hk hkm e0 e1 hI
            go_upto_region 11 with (fail)
            clear d0 d1 hbn
            rw [← hg7] at hJ ⊢
            generalize World.alloc _ _ = W5 at hJ hba ⊢
            have HBA := Lib.hid hba
            clear hg7 hba
            have fx := hJ.facts
            simp only [factsOf, cellsOf, Nat.zero_add, Nat.reduceAdd] at fx
            by_cases ht0 : kt < 0
            · as_aux_lemma =>
              have HX := Lib.hid (HBAD.out 1 (by decide) (.inl ⟨by show ¬ (0 ≤ kt ∧ kt ≤ 2000); omega, rfl⟩))
              have hfin := hJ.bel
              clear hJ
              go_wp2
              go_ret
              exact ⟨1, rfl, HX.out, hfin⟩
            · by_cases ht1 : kt > 2000
              · as_aux_lemma =>
                have ht2 : 2000 < kt := ht1
                have HX := Lib.hid (HBAD.out 1 (by decide) (.inl ⟨by show ¬ (0 ≤ kt ∧ kt ≤ 2000); omega, rfl⟩))
                have hfin := hJ.bel
                clear hJ
                go_wp2
                go_ret
                exact ⟨1, rfl, HX.out, hfin⟩
              · have ht2 : ¬ 2000 < kt := ht1
                have HTK := Lib.hid (show 0 ≤ kt ∧ kt ≤ 2000 by omega)
                go_wp2_with fail
                refine (HFI.out _ hJ.bel _ HKM.out ((HQS.out _ HKM.out).up hJ.bel)).mono ?_
                rintro e wf ⟨f, rfl, hfe, hb⟩
                have hfe : AFitE ar kl f := hfe
                replace hJ := hJ.call hb
                replace HBA := Lib.hid (HBA.out.trans (hb.mono HBA.out.size))
                have HFE := Lib.hid hfe
                clear hb fx hfe
                have fx := hJ.facts
                simp only [factsOf, cellsOf, Nat.zero_add, Nat.reduceAdd] at fx
                by_cases hf0 : f = 0
                · subst hf0
                  rcases m with _ | i
                  · as_aux_lemma =>
                    have HX := Lib.hid (HN.out (.inr ⟨HTK.out, 0, HFE.out, .inr (.inl ⟨rfl, rfl, rfl⟩)⟩) HTK.out HFE.out _ hJ.tail)
                    clear hJ
                    go_wp2_with fail
                    go_roundw
                    case rel => exact HX.out
                    case measure => simp [intOf]; omega
                  · have hi0 : i < K.length := by omega
                    obtain ⟨⟨pt, pv, pl⟩, hp⟩ : ∃ x, K[i]? = some x := ⟨_, List.getElem?_eq_getElem hi0⟩
                    have hpm := List.mem_of_getElem? hp
                    obtain ⟨Ap, np, Cp, hpv, hnp, _⟩ := id (HQS.out _ hpm)
                    have hpv : pv = .slice Ap np Cp := hpv
                    have hnp : pl.length = np := hnp
                    subst hnp
                    subst hpv
                    obtain ⟨_, _, he, _, e0, e1⟩ := Rd.key HRV.out hp
                    cases he
                    have e1 : w.cell? ⟨b, o + i * 2 + 1, none⟩ = some (.slice Ap pl.length Cp) := e1
                    have e0 : w.cell? ⟨b, o + i * 2, none⟩ = some (.int .i64 pt) := e0
                    have E := Lib.hid (fun W (hW : Below w.heap.size w W) => (⟨(hW.cell (p := ⟨b, o + i * 2, none⟩) hbB).trans e0, (hW.cell (p := ⟨b, o + i * 2 + 1, none⟩) hbB).trans e1, Nat.lt_of_lt_of_le hbB hW.size⟩ : And _ (And _ _)))
                    have HPF := Lib.hid (HOK.out i _ (Nat.lt_succ_self i) hp)
                    have hw0 : IntKind.i64.wrap ((i : Int) + 1 - 1) = (i : Int) := by rw [IntKind.wrap_i64]; omega
                    have hw00 : IntKind.i64.wrap (i : Int) = (i : Int) := by rw [IntKind.wrap_i64]; omega
                    have hii : 0 ≤ (i : Int) ∧ (i : Int) < (K.length : Int) := by omega
                    have hne1 : ((i : Int) + 1 == 0) = false := by
                      have : ¬ (i : Int) + 1 = 0 := by omega
                      simpa using this
                    have HKY := Lib.hid (show ∀ e, ((kt ≤ pt ∧ e = 9) ∨ (pt < kt ∧ ¬ SlowP ar.L (pt, .slice Ap pl.length Cp, pl) (kt, .slice Ak kl.length Ck, kl) ∧ e = 19) ∨ (pt < kt ∧ SlowP ar.L (pt, .slice Ap pl.length Cp, pl) (kt, .slice Ak kl.length Ck, kl) ∧ e = 0)) → KeyE ar (prevK K (i + 1)) (kt, .slice Ak kl.length Ck, kl) e from fun e h => .inr ⟨HTK.out, 0, HFE.out, .inr (.inr ⟨rfl, (pt, .slice Ap pl.length Cp, pl), hp, h⟩)⟩)
                    have HJB := Lib.hid hJ.bel
                    have HPM := Lib.hid hpm
                    have HSW := Lib.hid (fun W (hW : Below w.heap.size w W) => HSL.out W hW (pt, .slice Ap pl.length Cp, pl) (kt, .slice Ak kl.length Ck, kl) ⟨HPM.out, HKM.out⟩ ((HQS.out _ HPM.out).up hW) ((HQS.out _ HKM.out).up hW) (HPF.out.1.zero.2.1) (HFE.out.zero.2.1) (HFE.out.zero.1.zero rfl).2.1 HPF.out.2 HTK.out)
                    clear hp hpm e0 e1
                    by_cases htp : kt ≤ pt
                    · as_aux_lemma =>
                      have HX := Lib.hid (HBAD.out 9 (by decide) (HKY.out 9 (.inl ⟨htp, rfl⟩)))
                      clear fx
                      go_upto_region 17 with (fail)
                      refine wp_region_in hJ (by kernel_rfl) (by kernel_rfl) ?_
                      repeat (first
                        | (refine wpSeq_off (by rfl) ?_; try simp only [Act.put, List.setIfInBounds_toArray, List.set_cons_zero, List.set_cons_succ])
                        | (refine wpSeq_val (v := ?_) (by rfl) (fun W hS => ?_) ?_
                           rotate_left
                           · (have fx := hS.facts; simp only [factsOf, cellsOf, Nat.zero_add, Nat.reduceAdd] at fx; have fy0 := E.out W hS.bel; clear hS; go_simp; first | done | with_reducible rfl)
                           try simp only [Act.put, List.setIfInBounds_toArray, List.set_cons_zero, List.set_cons_succ]))
                      refine wpSeq_nil (fun W hS => ?_)
                      have hfin := hS.bel
                      clear hS hJ E
                      go_wp2
                      go_ret
                      exact ⟨9, rfl, HX.out, hfin⟩
                    · have htp2 : pt < kt := by omega
                      clear fx
                      go_upto_region 17 with (fail)
                      refine wp_region_in hJ (by kernel_rfl) (by kernel_rfl) ?_
                      repeat (first
                        | (refine wpSeq_off (by rfl) ?_; try simp only [Act.put, List.setIfInBounds_toArray, List.set_cons_zero, List.set_cons_succ])
                        | (refine wpSeq_val (v := ?_) (by rfl) (fun W hS => ?_) ?_
                           rotate_left
                           · (have fx := hS.facts; simp only [factsOf, cellsOf, Nat.zero_add, Nat.reduceAdd] at fx; have fy0 := E.out W hS.bel; clear hS; go_simp; first | done | with_reducible rfl)
                           try simp only [Act.put, List.setIfInBounds_toArray, List.set_cons_zero, List.set_cons_succ]))
                      refine wpSeq_nil (fun W hS => ?_)
                      clear hJ
                      by_cases hsl : SlowP ar.L (pt, .slice Ap pl.length Cp, pl) (kt, .slice Ak kl.length Ck, kl)
                      · as_aux_lemma =>
                        have HCS := Lib.hid (show ∀ W, Below w.heap.size w W → Calls Tryd.prog 94 #[.agg #[.string nm, .bool px.neg, .string px.num, .string px.den, .bool py.neg, .string py.num, .string py.den, .bool hf, .bool t.neg, .string t.num, .string t.den, .slice A N9 C], .agg #[.int .i64 pt, .slice Ap pl.length Cp], .agg #[.int .i64 kt, .slice Ak kl.length Ck]] W fun r w' => r = .returned (.bool true) ∧ Below W.heap.size W w' from fun W hW => (HSW.out W hW).mono fun r w' h => by
                          rcases h.both with ⟨h1, _, h3⟩ | ⟨_, h2, _⟩
                          · exact ⟨h1, h3⟩
                          · exact absurd hsl h2)
                        have HX := Lib.hid (HN.out (HKY.out 0 (.inr (.inr ⟨htp2, hsl, rfl⟩))) HTK.out HFE.out)
                        clear hsl
                        go_upto_region 19 with (fail)
                        refine wp_region_in hS (by kernel_rfl) (by kernel_rfl) ?_
                        repeat (first
                          | (refine wpSeq_off (by rfl) ?_; try simp only [Act.put, List.setIfInBounds_toArray, List.set_cons_zero, List.set_cons_succ])
                          | (refine wpSeq_val (v := ?_) (by rfl) (fun W hS => ?_) ?_
                             rotate_left
                             · (have fx := hS.facts; simp only [factsOf, cellsOf, Nat.zero_add, Nat.reduceAdd] at fx; have fy0 := E.out W hS.bel; clear hS; go_simp; first | done | with_reducible rfl)
                             try simp only [Act.put, List.setIfInBounds_toArray, List.set_cons_zero, List.set_cons_succ]))
                        refine wpSeq_call (v := .bool true) (by rfl) (fun W hS => ?_) (fun W hS => (HCS.out W hS.bel)) ?_
                        · (clear hS; go_simp; done)
                        try simp only [Act.put, List.setIfInBounds_toArray, List.set_cons_zero, List.set_cons_succ]
                        repeat (first
                          | (refine wpSeq_off (by rfl) ?_; try simp only [Act.put, List.setIfInBounds_toArray, List.set_cons_zero, List.set_cons_succ])
                          | (refine wpSeq_val (v := ?_) (by rfl) (fun W hS => ?_) ?_
                             rotate_left
                             · (have fx := hS.facts; simp only [factsOf, cellsOf, Nat.zero_add, Nat.reduceAdd] at fx; have fy0 := E.out W hS.bel; clear hS; go_simp; first | done | with_reducible rfl)
                             try simp only [Act.put, List.setIfInBounds_toArray, List.set_cons_zero, List.set_cons_succ]))
                        refine wpSeq_nil (fun W hS => ?_)
                        have HX2 := Lib.hid (HX.out _ hS.tail)
                        clear hS E HCS HX
                        go_wp2_with fail
                        go_roundw
                        case rel => exact HX2.out
                        case measure => simp [intOf]; omega
                      · as_aux_lemma =>
                        have HCS := Lib.hid (show ∀ W, Below w.heap.size w W → Calls Tryd.prog 94 #[.agg #[.string nm, .bool px.neg, .string px.num, .string px.den, .bool py.neg, .string py.num, .string py.den, .bool hf, .bool t.neg, .string t.num, .string t.den, .slice A N9 C], .agg #[.int .i64 pt, .slice Ap pl.length Cp], .agg #[.int .i64 kt, .slice Ak kl.length Ck]] W fun r w' => r = .returned (.bool false) ∧ Below W.heap.size W w' from fun W hW => (HSW.out W hW).mono fun r w' h => by
                          rcases h.both with ⟨_, h2, _⟩ | ⟨h1, _, h3⟩
                          · exact absurd h2 hsl
                          · exact ⟨h1, h3⟩)
                        have HX := Lib.hid (HBAD.out 19 (by decide) (HKY.out 19 (.inr (.inl ⟨htp2, hsl, rfl⟩))))
                        clear hsl
                        go_upto_region 19 with (fail)
                        refine wp_region_in hS (by kernel_rfl) (by kernel_rfl) ?_
                        repeat (first
                          | (refine wpSeq_off (by rfl) ?_; try simp only [Act.put, List.setIfInBounds_toArray, List.set_cons_zero, List.set_cons_succ])
                          | (refine wpSeq_val (v := ?_) (by rfl) (fun W hS => ?_) ?_
                             rotate_left
                             · (have fx := hS.facts; simp only [factsOf, cellsOf, Nat.zero_add, Nat.reduceAdd] at fx; have fy0 := E.out W hS.bel; clear hS; go_simp; first | done | with_reducible rfl)
                             try simp only [Act.put, List.setIfInBounds_toArray, List.set_cons_zero, List.set_cons_succ]))
                        refine wpSeq_call (v := .bool false) (by rfl) (fun W hS => ?_) (fun W hS => (HCS.out W hS.bel)) ?_
                        · (clear hS; go_simp; done)
                        try simp only [Act.put, List.setIfInBounds_toArray, List.set_cons_zero, List.set_cons_succ]
                        repeat (first
                          | (refine wpSeq_off (by rfl) ?_; try simp only [Act.put, List.setIfInBounds_toArray, List.set_cons_zero, List.set_cons_succ])
                          | (refine wpSeq_val (v := ?_) (by rfl) (fun W hS => ?_) ?_
                             rotate_left
                             · (have fx := hS.facts; simp only [factsOf, cellsOf, Nat.zero_add, Nat.reduceAdd] at fx; have fy0 := E.out W hS.bel; clear hS; go_simp; first | done | with_reducible rfl)
                             try simp only [Act.put, List.setIfInBounds_toArray, List.set_cons_zero, List.set_cons_succ]))
                        refine wpSeq_nil (fun W hS => ?_)
                        have hfin := hS.bel
                        clear hS E HCS
                        go_wp2
                        go_ret
                        exact ⟨19, rfl, HX.out, hfin⟩
                · as_aux_lemma =>
                  have h02 : (f != 0) = true := by simpa using hf0
                  have HX := Lib.hid (HBAD.out f hf0 (.inr ⟨HTK.out, f, HFE.out, .inl ⟨hf0, rfl⟩⟩))
                  have hfin := hJ.bel
                  clear hJ
                  go_wp2
                  go_ret
                  exact ⟨f, rfl, HX.out, hfin⟩
          · obtain rfl : m = K.length := by omega
            have hi1 : ¬ (K.length : Int) < (K.length : Int) := by omega
            have HX := Lib.hid (HTE.out 0 (hke 0 (by rw [List.drop_length]; exact rfl)))
            have hfin := hI.bel
            clear hI hok hke
            go_wp2
            go_ret
            exact ⟨0, rfl, HX.out, hfin⟩
  · have h02 : (c != 0) = true := by simpa using h0
    have HX := Lib.hid (show TrackE ar K c from ⟨c, hc, .inl ⟨h0, rfl⟩⟩)
    have hfin := hI.bel
    clear hc hI
    go_wp2
    go_ret
    exact ⟨c, rfl, HX.out, hfin⟩
end Go.Proofs.YtnnbnecpcppkdaaDoor
