/- gantlaw5.wishes at a state of the wrong length; gantlaw5.follows. Conditions: those typed. -/
import Derived.Test.YtnnbnecpcppkdaaDoorCtlW0
import Derived.Test.YtnnbnecpcppkdaaDoorCtlW1
import Derived.Test.YtnnbnecpcppkdaaDoorBraked
namespace Go.Proofs.YtnnbnecpcppkdaaDoor
open Go.RowKit Go.Gy
set_option linter.unusedVariables false
set_option linter.unusedSimpArgs false
theorem over_bad {K : List Ky} {tick : Int} {ql : List Q3} {n : Nat} (h : ql.length ≠ n) : overB K tick ql n = false := by
  unfold overB
  split
  · rfl
  · simp [h]
set_option maxRecDepth 100000 in
set_option maxHeartbeats 8000000 in
theorem wishes_bad (w : World) (p : Nat) (a a' : Ar) (vt v : Value) (K K' : List Ky) (tick tz : Int) (vq vv : Value) (ql : List Q3) (pw : Bool) (hd : Int) (has : Bool) {N : Nat} (hO : WhOk w p a a' vt v K K' tz ql has N) (htz : min 2000 (max (-1) tick) = tz) (hq : SlQ w w.heap.size vq ql) (hvv : ∃ A n c, vv = .slice A n c) (hqn : ql.length ≠ a.L.length) :
    Calls Tryd.prog 58 #[.pointer (some ⟨p, 0, none⟩), a.val, v, .int .i64 tick, .agg #[vq, vv, .bool pw, .int .i64 hd], .bool has] w fun e w' => e = .returned (.bool true) ∧ Below w.heap.size w w' := by
  obtain ⟨Aq, nq, Cq, rfl, hnq, _⟩ := id hq
  subst hnq
  obtain ⟨Av, nv, Cv, rfl⟩ := hvv
  obtain ⟨At, nt, Ct, rfl, hnt, _⟩ := id hO.sl
  subst hnt
  obtain ⟨Ax, nx, Cx, rfl, _⟩ := id hO.tr
  have HT := Lib.hid hO.tab
  have hq2 : ql.length ≠ a'.L.length := by rw [hO.n]; exact hqn
  have HWI := Lib.hid (fun W (hW : Below w.heap.size w W) => wish_none W p a' _ tz (Aq := Aq) (Cq := Cq) (.slice Av nv Cv) pw hd (hO.ctl.below hW) hq2)
  obtain ⟨z0, q0, cz0, lz0, O0⟩ := ofR w HT.out 0
  have HLT := Lib.hid (fun W (hW : Below w.heap.size w W) => late_none W (tabs w HT.out hW) p a' tz (Aq := Aq) (Cq := Cq) (.slice Av nv Cv) pw hd (hO.ctl.below hW) (.inl hq2) z0 cz0 q0)
  have HOV := Lib.hid (fun W (hW : Below w.heap.size w W) => wh_over hO hW hq ⟨Av, nv, Cv, rfl⟩ pw hd)
  rw [over_bad hqn] at HOV
  obtain ⟨nm, ⟨px, py⟩, hf, t, va, L⟩ := a
  obtain ⟨⟨A, N9, C, hva, hNL, hNC, _, hrd⟩, hshp⟩ := hO.at_
  obtain rfl : va = .slice A N9 C := hva
  have hval : (⟨nm, ⟨px, py⟩, hf, t, .slice A N9 C, L⟩ : Ar).val = .agg #[.string nm, .bool px.neg, .string px.num, .string px.den, .bool py.neg, .string py.num, .string py.den, .bool hf, .bool t.neg, .string t.num, .string t.den, .slice A N9 C] := rfl
  rw [hval]
  obtain rfl : L.length = N9 := (Ar.ks_len ⟨nm, ⟨px, py⟩, hf, t, .slice A N9 C, L⟩).symm.trans hNL
  have hqn : ql.length ≠ L.length := hqn
  have hn1 : ((ql.length : Int) != (L.length : Int)) = true := bne_iff_ne.mpr (by omega)
  have hI := ((In.start w).alloc 37 #[.string nm, .bool px.neg, .string px.num, .string px.den, .bool py.neg, .string py.num, .string py.den, .bool hf, .bool t.neg, .string t.num, .string t.den, .slice A L.length C]).alloc 61 #[.slice Aq ql.length Cq, .slice Av nv Cv, .bool pw, .int .i64 hd]
  rw [World.size_alloc] at hI
  have ge := guard_quot
  have hn3 := fun W => eql_quot W z0
  clear hO hq hrd hshp hNL hNC hval q0 cz0 lz0 hqn hq2
  go_enter Tryd.func58, Tryd.ntmps58
  go_upto_region 1 with (fail)
  obtain ⟨g7, hg7⟩ : ∃ g, g = w.heap.size := ⟨_, rfl⟩
  rw [← hg7] at hI ⊢
  generalize World.alloc _ _ = W1 at hI ⊢
  clear hg7
  have fx := hI.facts
  simp only [factsOf, cellsOf, Nat.zero_add, Nat.reduceAdd] at fx
  go_wp2_with fail
  refine (HWI.out _ hI.bel).mono ?_
  rintro e w2 ⟨rfl, hb⟩
  replace hI := hI.call hb
  clear hb fx HWI
  have fx := hI.facts
  simp only [factsOf, cellsOf, Nat.zero_add, Nat.reduceAdd] at fx
  go_wp2_with fail
  refine (HLT.out _ hI.bel).mono ?_
  rintro e w3 ⟨rfl, hb⟩
  replace hI := (hI.call hb).alloc 25 #[.bool z0.neg, .string z0.num, .string z0.den]
  obtain ⟨g14, hg14⟩ : ∃ g, g = w3.heap.size := ⟨_, rfl⟩
  clear hb fx HLT
  go_upto_region 4 with (fail)
  rw [← hg14] at hI ⊢
  generalize World.alloc _ _ = W4 at hI ⊢
  clear hg14
  have fx := hI.facts
  simp only [factsOf, cellsOf, Nat.zero_add, Nat.reduceAdd] at fx
  go_upto_region 5 with (fail)
  clear fx
  refine wp_region_in hI (by kernel_rfl) (by kernel_rfl) ?_
  repeat (first
    | (refine wpSeq_off (by rfl) ?_; try simp only [Act.put, List.setIfInBounds_toArray, List.set_cons_zero, List.set_cons_succ])
    | (refine wpSeq_val (v := ?_) (by rfl) (fun W hS => ?_) ?_
       rotate_left
       · (have fx := hS.facts; simp only [factsOf, cellsOf, Nat.zero_add, Nat.reduceAdd] at fx; clear hS; go_simp; first | done | with_reducible rfl)
       try simp only [Act.put, List.setIfInBounds_toArray, List.set_cons_zero, List.set_cons_succ]))
  refine wpSeq_call (v := .agg #[.bool z0.neg, .string z0.num, .string z0.den]) (by rfl) (fun W hS => ?_) (fun W hS => (O0.out W hS.bel)) ?_
  · (clear hS; go_simp; done)
  try simp only [Act.put, List.setIfInBounds_toArray, List.set_cons_zero, List.set_cons_succ]
  repeat (first
    | (refine wpSeq_off (by rfl) ?_; try simp only [Act.put, List.setIfInBounds_toArray, List.set_cons_zero, List.set_cons_succ])
    | (refine wpSeq_val (v := ?_) (by rfl) (fun W hS => ?_) ?_
       rotate_left
       · (have fx := hS.facts; simp only [factsOf, cellsOf, Nat.zero_add, Nat.reduceAdd] at fx; clear hS; go_simp; first | done | with_reducible rfl)
       try simp only [Act.put, List.setIfInBounds_toArray, List.set_cons_zero, List.set_cons_succ]))
  refine wpSeq_call (v := .bool false) (by rfl) (fun W hS => ?_) (fun W hS => (HOV.out W hS.bel)) ?_
  · (clear hS; go_simp; done)
  try simp only [Act.put, List.setIfInBounds_toArray, List.set_cons_zero, List.set_cons_succ]
  repeat (first
    | (refine wpSeq_off (by rfl) ?_; try simp only [Act.put, List.setIfInBounds_toArray, List.set_cons_zero, List.set_cons_succ])
    | (refine wpSeq_val (v := ?_) (by rfl) (fun W hS => ?_) ?_
       rotate_left
       · (have fx := hS.facts; simp only [factsOf, cellsOf, Nat.zero_add, Nat.reduceAdd] at fx; clear hS; go_simp; first | done | with_reducible rfl)
       try simp only [Act.put, List.setIfInBounds_toArray, List.set_cons_zero, List.set_cons_succ]))
  refine wpSeq_nil (fun W hS => ?_)
  have hfin := hS.bel
  clear hI hS O0 HOV
  go_wp2
  go_ret
  exact ⟨rfl, hfin⟩
theorem wishes_any (w : World) (p : Nat) (a a' : Ar) (vt v : Value) (K K' : List Ky) (tick tz : Int) (vq vv : Value) (ql : List Q3) (pw : Bool) (hd : Int) (has : Bool) {N : Nat} (hO : WhOk w p a a' vt v K K' tz ql has N) (htz : min 2000 (max (-1) tick) = tz) (hq : SlQ w w.heap.size vq ql) (hvv : ∃ A n c, vv = .slice A n c) :
    Calls Tryd.prog 58 #[.pointer (some ⟨p, 0, none⟩), a.val, v, .int .i64 tick, .agg #[vq, vv, .bool pw, .int .i64 hd], .bool has] w fun e w' => e = .returned (.bool true) ∧ Below w.heap.size w w' := by
  by_cases h : ql.length = a.L.length
  · cases has with
    | true => exact wishes_true w p a a' vt v K K' tick tz vq vv ql pw hd hO htz hq hvv h
    | false => exact wishes_false w p a a' vt v K K' tick tz vq vv ql pw hd hO htz hq hvv h
  · exact wishes_bad w p a a' vt v K K' tick tz vq vv ql pw hd has hO htz hq hvv h
set_option maxRecDepth 100000 in
set_option maxHeartbeats 8000000 in
theorem follows_any (w : World) (hT : TabW w) : Calls Tryd.prog 55 #[] w fun e w' => e = .returned (.bool true) ∧ Below w.heap.size w w' := by
  obtain ⟨h, qh, ch, lh, MK⟩ := makeR w hT 1 2 (by decide)
  obtain ⟨z, qz, cz, lz, OF⟩ := ofR w hT 0
  obtain ⟨⟨k0, k1, k2, k3, k4, ks⟩, _, q1, q2, q3, _, lk, hks, BR⟩ := brakedR w hT
  obtain rfl : ks = .slice none 0 0 := hks
  obtain ⟨x, qx, cx, _, TW⟩ := towardR w hT ⟨k0, k1, k2, k3, k4, .slice none 0 0⟩ z h (N := 16) lk (lz.more (by decide)) lh (by decide)
  have hxh : x = h := cx.eq ch (by
    have q1 : k1.q = -1 := q1
    have q2 : k2.q = 1 := q2
    have q3 : k3.q = 1 := q3
    rw [qx]
    show towQ k1.q k2.q k3.q z.q h.q = _
    rw [q1, q2, q3, qz, qh]
    decide +kernel)
  subst hxh
  have TW : Hid (∀ W, Below w.heap.size w W → Calls Tryd.prog 92 #[.agg #[.bool k0.neg, .string k0.num, .string k0.den, .bool k1.neg, .string k1.num, .string k1.den, .bool k2.neg, .string k2.num, .string k2.den, .bool k3.neg, .string k3.num, .string k3.den, .bool k4.neg, .string k4.num, .string k4.den, .slice none 0 0], .agg #[.bool z.neg, .string z.num, .string z.den], .agg #[.bool x.neg, .string x.num, .string x.den]] W fun r w' => r = .returned (.agg #[.bool x.neg, .string x.num, .string x.den]) ∧ Below W.heap.size W w') := TW
  have BR : Hid (∀ W, Below w.heap.size w W → Calls Tryd.prog 83 #[] W fun r w' => r = .returned (.agg #[.bool k0.neg, .string k0.num, .string k0.den, .bool k1.neg, .string k1.num, .string k1.den, .bool k2.neg, .string k2.num, .string k2.den, .bool k3.neg, .string k3.num, .string k3.den, .bool k4.neg, .string k4.num, .string k4.den, .slice none 0 0]) ∧ Below W.heap.size W w') := BR
  have ge := guard_quot
  have hn3 := fun W => eql_quot W x
  have hI := In.start w
  clear qh ch lh qz cz lz q1 q2 q3 lk qx cx hT
  go_enter Tryd.func55, Tryd.ntmps55
  go_wp2_with fail
  refine (MK.out _ hI.bel).mono ?_
  rintro e w2 ⟨rfl, hb⟩
  replace hI := (hI.call hb).alloc 25 #[.bool x.neg, .string x.num, .string x.den]
  obtain ⟨g1, hg1⟩ : ∃ g, g = w2.heap.size := ⟨_, rfl⟩
  clear hb MK
  go_upto_region 2 with (fail)
  rw [← hg1] at hI ⊢
  generalize World.alloc _ _ = W4 at hI ⊢
  clear hg1
  refine wp_region_in_float 4 _ 25 #[.bool false, .string { data := #[] }, .string { data := #[] }] hI (by kernel_rfl) (by kernel_rfl) rfl ?_
  simp only [List.take_succ_cons, List.take_zero, List.drop_succ_cons, List.drop_zero]
  refine wpSeq_call (v := .agg #[.bool k0.neg, .string k0.num, .string k0.den, .bool k1.neg, .string k1.num, .string k1.den, .bool k2.neg, .string k2.num, .string k2.den, .bool k3.neg, .string k3.num, .string k3.den, .bool k4.neg, .string k4.num, .string k4.den, .slice none 0 0]) (by rfl) (fun W hS => ?_) (fun W hS => (BR.out W hS.bel)) ?_
  · (clear hS; go_simp; done)
  try simp only [Act.put, List.setIfInBounds_toArray, List.set_cons_zero, List.set_cons_succ]
  repeat (first
    | (refine wpSeq_off (by rfl) ?_; try simp only [Act.put, List.setIfInBounds_toArray, List.set_cons_zero, List.set_cons_succ])
    | (refine wpSeq_val (v := ?_) (by rfl) (fun W hS => ?_) ?_
       rotate_left
       · (have fx := hS.facts; simp only [factsOf, cellsOf, Nat.zero_add, Nat.reduceAdd] at fx; clear hS; go_simp; first | done | with_reducible rfl)
       try simp only [Act.put, List.setIfInBounds_toArray, List.set_cons_zero, List.set_cons_succ]))
  refine wpSeq_call (v := .agg #[.bool z.neg, .string z.num, .string z.den]) (by rfl) (fun W hS => ?_) (fun W hS => (OF.out W hS.bel)) ?_
  · (clear hS; go_simp; done)
  try simp only [Act.put, List.setIfInBounds_toArray, List.set_cons_zero, List.set_cons_succ]
  repeat (first
    | (refine wpSeq_off (by rfl) ?_; try simp only [Act.put, List.setIfInBounds_toArray, List.set_cons_zero, List.set_cons_succ])
    | (refine wpSeq_val (v := ?_) (by rfl) (fun W hS => ?_) ?_
       rotate_left
       · (have fx := hS.facts; simp only [factsOf, cellsOf, Nat.zero_add, Nat.reduceAdd] at fx; clear hS; go_simp; first | done | with_reducible rfl)
       try simp only [Act.put, List.setIfInBounds_toArray, List.set_cons_zero, List.set_cons_succ]))
  refine wpSeq_call (v := .agg #[.bool x.neg, .string x.num, .string x.den]) (by rfl) (fun W hS => ?_) (fun W hS => (TW.out W hS.bel)) ?_
  · (clear hS; go_simp; done)
  try simp only [Act.put, List.setIfInBounds_toArray, List.set_cons_zero, List.set_cons_succ]
  repeat (first
    | (refine wpSeq_off (by rfl) ?_; try simp only [Act.put, List.setIfInBounds_toArray, List.set_cons_zero, List.set_cons_succ])
    | (refine wpSeq_val (v := ?_) (by rfl) (fun W hS => ?_) ?_
       rotate_left
       · (have fx := hS.facts; simp only [factsOf, cellsOf, Nat.zero_add, Nat.reduceAdd] at fx; clear hS; go_simp; first | done | with_reducible rfl)
       try simp only [Act.put, List.setIfInBounds_toArray, List.set_cons_zero, List.set_cons_succ]))
  refine wpSeq_nil ⟨rfl, fun W hS => ?_, fun g W hI => ?_⟩
  · go_simp
  simp only [List.setIfInBounds_toArray, List.set_cons_zero, List.set_cons_succ]
  have hS1 := hI.take (a := [_])
  have fx := hS1.facts
  simp only [factsOf, cellsOf, Nat.zero_add, Nat.reduceAdd] at fx
  have hz := fun i => hS1.free (k := 0) (i := i) rfl
  have HX := Lib.hid (hI.all3 (a := []) (.bool x.neg) (.string x.num) (.string x.den))
  clear hS1 hI BR OF TW
  go_upto_region 3 with (fail)
  have hI : In w (_ :: _ :: _) _ := HX.out
  clear HX fx hz
  generalize World.setCell _ _ _ = W11 at hI ⊢
  have fx := hI.facts
  simp only [factsOf, cellsOf, Nat.zero_add, Nat.reduceAdd] at fx
  have hfin := hI.bel
  clear hI
  go_wp2
  go_ret
  exact ⟨rfl, hfin⟩
end Go.Proofs.YtnnbnecpcppkdaaDoor
