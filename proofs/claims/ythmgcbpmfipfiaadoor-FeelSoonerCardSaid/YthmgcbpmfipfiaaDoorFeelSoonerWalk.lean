/- FeelSooner: the walk. Conditions: those typed. -/
import Derived.Test.YthmgcbpmfipfiaaDoorFeels
import Derived.Test.YthmgcbpmfipfiaaDoorReadings
import Derived.Test.YthmgcbpmfipfiaaDoorSliceTo
namespace Go.Proofs.YthmgcbpmfipfiaaDoor.feelSooner
open Go.RowKit Go.Gy
set_option linter.unusedVariables false
theorem stop_ex (lim jump : Rat) (l : List Rat) : ∃ x : Int, StopIs lim jump l x := by
  have key : ∀ n : Nat, (∃ k : Nat, k < n ∧ stopAt lim jump l k ∧ ∀ j, j < k → ¬ stopAt lim jump l j) ∨ ∀ j, j < n → ¬ stopAt lim jump l j := by
    intro n
    induction n with
    | zero => exact .inr fun j hj => absurd hj (Nat.not_lt_zero j)
    | succ n ih =>
      rcases ih with ⟨k, h1, h2⟩ | h
      · exact .inl ⟨k, by omega, h2⟩
      · rcases Classical.em (stopAt lim jump l n) with hn | hn
        · exact .inl ⟨n, by omega, hn, h⟩
        · refine .inr fun j hj => ?_
          rcases Nat.lt_or_ge j n with h' | h'
          · exact h j h'
          · rw [show j = n by omega]; exact hn
  rcases key l.length with ⟨k, _, h1, h2⟩ | h
  · exact ⟨k, .inl ⟨k, rfl, h1, h2⟩⟩
  · exact ⟨-1, .inr ⟨rfl, fun j hj => h j (stopAt_lt hj) hj⟩⟩
/-- feel.Stop at a good rule and a short row: a letter -/
theorem stopR (w : World) (hT : TabW w) (r1 r2 : Q3) (h1 : r1.ok) (h2 : r2.ok) (p1 : 0 < r1.q) (p2 : 0 < r2.q) (v : Value) (l : List Q3) (hv : SlQ w w.heap.size v l) (hl : ∀ x ∈ l, x.ok) (hn : l.length ≤ 1000) :
    ∃ x : Int, StopIs r1.q r2.q (l.map Q3.q) x ∧ Hid (∀ W, Below w.heap.size w W → Calls Tryd.prog 22 #[.agg #[.bool r1.neg, .string r1.num, .string r1.den, .bool r2.neg, .string r2.num, .string r2.den], v] W fun e w' => e = .returned (.tuple #[.int .i64 x, .int .i64 0]) ∧ Below W.heap.size W w') := by
  obtain ⟨x, hx⟩ := stop_ex r1.q r2.q (l.map Q3.q)
  refine ⟨x, hx, Lib.hid fun W hW => (stop_any W r1 r2 h1 h2 v l ((hv.below hW).more hW.size) hl (tabs w hT hW)).mono ?_⟩
  rintro e w' ⟨x', k, rfl, hp, hb⟩
  unfold StopPost at hp
  rw [if_pos ⟨p1, p2⟩, if_neg (by rw [List.length_map]; omega)] at hp
  obtain ⟨hp, rfl⟩ := hp
  rw [StopIs.unique hp hx]
  exact ⟨rfl, hb⟩
theorem wf_i64 {n : Int} (h : wfI .i64 n) : -9223372036854775808 ≤ n ∧ n ≤ 9223372036854775807 := by
  simpa [wfI, Lit.wf, IntKind.min, IntKind.max, IntKind.signed, IntKind.bits] using h
set_option maxRecDepth 100000 in
theorem size_quot (w : World) : (sizeOf (Tryd.prog.elem 24)).run Tryd.prog w = .ok 3 w := by
  obtain ⟨i, hi, _⟩ := info_parts info_rat
  exact (run_sizeOf (w := w) (show Tryd.prog.info? (Tryd.prog.elem 24) = some i from hi)).trans (congrArg (fun n => Result.ok n w) (by kernel_rfl))
set_option maxRecDepth 100000 in
theorem quots_to (A : Option Addr) (N C k : Nat) (hk : k ≤ C) (w : World) : (Instr.slice 24 (.slice A N C) none (some (.int .i64 (k : Int))) none).run Tryd.prog w = .ok (.slice A k C) w :=
  run_slice_to 24 3 (by kernel_rfl) size_quot A N C k hk w
theorem wpSeq_slice_to {P : Program} {ops : Array Oper} {S : World → Prop} {Q : Act → Prop} {o : Oper} {rest : List Oper} {a : Act} (hw : Region.wanted o (yielded ops a.tmps) = true) (t : TypeId) (s x : Operand) (ho : o.op = .slice t s none (some x) none) (A : Option Addr) (N C k : Nat) (hs : a.eval s = .slice A N C) (hx : a.eval x = .int .i64 (k : Int))
    (hu : P.underlying t = some (.slice (P.elem t))) (hr : ∀ w, (Instr.slice t (.slice A N C) none (some (.int .i64 (k : Int))) none).run P w = .ok (.slice A k C) w)
    (h : wpSeq P ops S Q rest (a.put o.dst (.slice A k C))) : wpSeq P ops S Q (o :: rest) a :=
  wpSeq_val hw (fun w _ => by
    unfold execOp
    simp only [ho, hs, hx, Option.map_none, Option.map_some, run_sliceAt_slice w t _ _ _ _ hu, hr, Sem.run_bind, Sem.run_pure, Result.andThen_ok]) h
theorem abs_half_pos {a b c : Rat} (hb : b = 1 / 2) (h : c = absQ a + b) : 0 < c := by
  subst hb h
  have : 0 ≤ absQ a := by unfold absQ; split <;> grind
  grind
set_option maxRecDepth 100000 in
set_option maxHeartbeats 4000000 in
theorem walk (v0 : Value) (a b n : Int) (w : World) {b0 : Nat} (f0 : IntsArg w v0 b0) (wa : wfI .i64 a) (wb : wfI .i64 b) (wn : wfI .i64 n) (hT : TabW w) :
    Calls Tryd.prog 3 #[v0, .int .i64 a, .int .i64 b, .int .i64 n] w fun e w' => e = .returned (.bool true) ∧ Below w.heap.size w w' := by
  obtain ⟨r, hl, hi, _, _⟩ := f0
  have HT := Lib.hid hT
  have HF := feels_any w hT
  have Hl := Lib.hid hl
  have Hi := Lib.hid hi
  have Ha := Lib.hid (wf_i64 wa)
  have Hb := Lib.hid (wf_i64 wb)
  have Hn := Lib.hid (wf_i64 wn)
  clear hl hi wa wb wn hT
  go_enter Tryd.func3, Tryd.ntmps3
  go_wp2_with fail
  refine HF.mono ?_
  rintro e w1 ⟨rfl, hb1⟩
  go_wp2_with fail
  refine (readings_any w1 v0 r ((Hl.out.below hb1).more hb1.size) Hi.out).mono ?_
  rintro e w2 ⟨v, rfl, hown, hb2⟩
  have hB := hb1.trans (hb2.mono hb1.size)
  have HT2 := Lib.hid (tabs w HT.out hB)
  have hv : SlQ w2 w2.heap.size v ((readM r).map toQ3) := SlQ.own hown
  have hlq : ((readM r).map toQ3).map Q3.q = readM r := by rw [List.map_map]; exact (List.map_congr_left (fun x _ => toQ3_q x)).trans (List.map_id _)
  have hlo : ∀ x ∈ (readM r).map toQ3, x.le 1 := by
    intro x hx
    obtain ⟨q, hq, rfl⟩ := List.mem_map.1 hx
    obtain ⟨z, _, rfl⟩ := List.mem_map.1 hq
    exact toQ3_le (ratM_small z)
  have hll : ((readM r).map toQ3).length ≤ 40 := by
    unfold readM
    rw [List.length_map, List.length_map, List.length_take]
    omega
  obtain ⟨L, hL⟩ : ∃ L, L = (readM r).map toQ3 := ⟨_, rfl⟩
  rw [← hL] at hv hlq hlo hll
  have HV := Lib.hid hv
  obtain ⟨A, N, c, rfl, hLN, hNc, hA, hrd⟩ := hv
  have hN40 : N ≤ 40 := by omega
  obtain ⟨za, qa, _, la, A1⟩ := ratMR w2 a Ha.out
  obtain ⟨fa, qfa, _, lfa, A2⟩ := absR w2 HT2.out za la
  obtain ⟨zh, qh, _, lh, A3⟩ := halfR w2 HT2.out
  obtain ⟨r1, q1, _, l1, A4⟩ := addR w2 HT2.out fa zh lfa lh
  obtain ⟨zb, qb, _, lb, B1⟩ := ratMR w2 b Hb.out
  obtain ⟨fb, qfb, _, lfb, B2⟩ := absR w2 HT2.out zb lb
  obtain ⟨r2, q2, _, l2, B4⟩ := addR w2 HT2.out fb zh lfb lh
  obtain ⟨s1, qs1, _, ls1, C1⟩ := mulR w2 HT2.out r1 zh l1 lh
  obtain ⟨s2, qs2, _, ls2, C2⟩ := mulR w2 HT2.out r2 zh l2 lh
  have p1 : 0 < r1.q := abs_half_pos qh (by rw [q1, qfa])
  have p2 : 0 < r2.q := abs_half_pos qh (by rw [q2, qfb])
  have p3 : 0 < s1.q ∧ s1.q ≤ r1.q := by rw [qs1, qh]; constructor <;> grind
  have p4 : 0 < s2.q ∧ s2.q ≤ r2.q := by rw [qs2, qh]; constructor <;> grind
  obtain ⟨x, hx, E1⟩ := stopR w2 HT2.out r1 r2 (l1.more (by decide)) (l2.more (by decide)) p1 p2 _ L HV.out (fun x hx => (hlo x hx).more (by decide)) (by omega)
  obtain ⟨y, hy, E2⟩ := stopR w2 HT2.out s1 s2 (ls1.more (by decide)) (ls2.more (by decide)) p3.1 p4.1 _ L HV.out (fun x hx => (hlo x hx).more (by decide)) (by omega)
  have hmod1 := Int.emod_nonneg n (b := (N : Int) + 1) (by omega)
  have hmod2 := Int.emod_lt_of_pos n (b := (N : Int) + 1) (by omega)
  obtain ⟨kk, hkk⟩ : ∃ kk : Nat, n % ((N : Int) + 1) = kk := ⟨(n % ((N : Int) + 1)).toNat, by omega⟩
  rw [hkk] at hmod1 hmod2
  have hkN : kk ≤ N := by omega
  have E4 := Lib.hid (fun W => below_any n ((N : Int) + 1) W (by omega) (by omega))
  rw [hkk] at E4
  have hv3 : SlQ w2 w2.heap.size (.slice A kk c) (L.take kk) := by
    refine ⟨A, kk, c, rfl, by rw [List.length_take]; omega, by omega, hA, ?_⟩
    have h := hrd.take (k := kk) hkN
    have e : (L.flatMap encQ).take (kk * 3) = (L.take kk).flatMap encQ := by
      have key : ∀ (l : List Q3) (k : Nat), (l.flatMap encQ).take (k * 3) = (l.take k).flatMap encQ := by
        intro l
        induction l with
        | nil => intro k; simp
        | cons x l ih =>
          intro k
          cases k with
          | zero => simp
          | succ k => rw [List.flatMap_cons, List.take_succ_cons, List.flatMap_cons, List.take_append, List.take_of_length_le (by rw [encQ_len]; omega), encQ_len, show (k + 1) * 3 - 3 = k * 3 by omega, ih]
      exact key L kk
    rw [e] at h
    exact h
  obtain ⟨z, hz3, E3⟩ := stopR w2 HT2.out r1 r2 (l1.more (by decide)) (l2.more (by decide)) p1 p2 _ (L.take kk) hv3 (fun x hx => (hlo x (List.mem_of_mem_take hx)).more (by decide)) (by rw [List.length_take]; omega)
  rw [List.map_take] at hz3
  have HLAW := Lib.hid (sooner_law p3.2 p4.2 hx hy hz3)
  have HTO := Lib.hid (fun w => quots_to A N c kk (by omega) w)
  clear hx hy hz3 hv3 hkk hmod1 hmod2 hlq hlo hll hrd p1 p2 p3 p4
  have A1' := Lib.hid (fun W (_ : Below w2.heap.size w2 W) => A1.out W)
  have B1' := Lib.hid (fun W (_ : Below w2.heap.size w2 W) => B1.out W)
  have hI := In.start w2
  clear A1 B1 hown hb1 hb2 HF Hl Hi
  go_wp2_with fail
  refine (A1'.out _ hI.bel).mono ?_
  rintro e wn ⟨rfl, hb⟩
  replace hI := hI.call hb
  clear hb
  go_wp2_with fail
  refine (A2.out _ hI.bel).mono ?_
  rintro e wn ⟨rfl, hb⟩
  replace hI := hI.call hb
  clear hb
  go_wp2_with fail
  refine (A3.out _ hI.bel).mono ?_
  rintro e wn ⟨rfl, hb⟩
  replace hI := hI.call hb
  clear hb
  go_wp2_with fail
  refine (A4.out _ hI.bel).mono ?_
  rintro e wn ⟨rfl, hb⟩
  replace hI := hI.call hb
  clear hb
  go_wp2_with fail
  refine (B1'.out _ hI.bel).mono ?_
  rintro e wn ⟨rfl, hb⟩
  replace hI := hI.call hb
  clear hb
  go_wp2_with fail
  refine (B2.out _ hI.bel).mono ?_
  rintro e wn ⟨rfl, hb⟩
  replace hI := hI.call hb
  clear hb
  go_wp2_with fail
  refine (A3.out _ hI.bel).mono ?_
  rintro e wn ⟨rfl, hb⟩
  replace hI := hI.call hb
  clear hb
  go_wp2_with fail
  refine (B4.out _ hI.bel).mono ?_
  rintro e wn ⟨rfl, hb⟩
  replace hI := hI.call hb
  clear hb
  go_upto_region 5 with (fail)
  have hJ := hI.alloc 33 #[.bool r1.neg, .string r1.num, .string r1.den, .bool r2.neg, .string r2.num, .string r2.den]
  obtain ⟨k, hk⟩ : ∃ k, k = wn.heap.size := ⟨_, rfl⟩
  rw [← hk] at hJ ⊢
  generalize World.alloc _ _ = W at hJ ⊢
  clear hI hk
  go_cut [11] (fun q wx => ∃ g, q = .pointer (some ⟨g, 0, none⟩) ∧ In w2 [(g, 33, #[.bool s1.neg, .string s1.num, .string s1.den, .bool s2.neg, .string s2.num, .string s2.den]), (k, 33, #[.bool r1.neg, .string r1.num, .string r1.den, .bool r2.neg, .string r2.num, .string r2.den])] wx)
  case first =>
    refine wp_region_in_float 9 _ 33 #[.bool false, .string { data := #[] }, .string { data := #[] }, .bool false, .string { data := #[] }, .string { data := #[] }] hJ (by kernel_rfl) (by kernel_rfl) rfl ?_
    simp only [List.take_succ_cons, List.take_zero, List.drop_succ_cons, List.drop_zero]
    repeat (first
      | (refine wpSeq_off (by rfl) ?_; try simp only [Act.put, List.setIfInBounds_toArray, List.set_cons_zero, List.set_cons_succ])
      | (refine wpSeq_val (v := ?_) (by rfl) (fun W hS => ?_) ?_
         rotate_left
         · (have fx := hS.facts; simp only [factsOf, cellsOf, Nat.zero_add, Nat.reduceAdd] at fx; clear hS; go_simp; first | done | with_reducible rfl)
         try simp only [Act.put, List.setIfInBounds_toArray, List.set_cons_zero, List.set_cons_succ]))
    refine wpSeq_call (v := .agg #[.bool zh.neg, .string zh.num, .string zh.den]) (by rfl) (fun W hS => ?_) (fun W hS => (A3.out W hS.bel)) ?_
    · (clear hS; go_simp; done)
    try simp only [Act.put, List.setIfInBounds_toArray, List.set_cons_zero, List.set_cons_succ]
    repeat (first
      | (refine wpSeq_off (by rfl) ?_; try simp only [Act.put, List.setIfInBounds_toArray, List.set_cons_zero, List.set_cons_succ])
      | (refine wpSeq_val (v := ?_) (by rfl) (fun W hS => ?_) ?_
         rotate_left
         · (have fx := hS.facts; simp only [factsOf, cellsOf, Nat.zero_add, Nat.reduceAdd] at fx; clear hS; go_simp; first | done | with_reducible rfl)
         try simp only [Act.put, List.setIfInBounds_toArray, List.set_cons_zero, List.set_cons_succ]))
    refine wpSeq_call (v := .agg #[.bool s1.neg, .string s1.num, .string s1.den]) (by rfl) (fun W hS => ?_) (fun W hS => (C1.out W hS.bel)) ?_
    · (clear hS; go_simp; done)
    try simp only [Act.put, List.setIfInBounds_toArray, List.set_cons_zero, List.set_cons_succ]
    repeat (first
      | (refine wpSeq_off (by rfl) ?_; try simp only [Act.put, List.setIfInBounds_toArray, List.set_cons_zero, List.set_cons_succ])
      | (refine wpSeq_val (v := ?_) (by rfl) (fun W hS => ?_) ?_
         rotate_left
         · (have fx := hS.facts; simp only [factsOf, cellsOf, Nat.zero_add, Nat.reduceAdd] at fx; clear hS; go_simp; first | done | with_reducible rfl)
         try simp only [Act.put, List.setIfInBounds_toArray, List.set_cons_zero, List.set_cons_succ]))
    refine wpSeq_call (v := .agg #[.bool zh.neg, .string zh.num, .string zh.den]) (by rfl) (fun W hS => ?_) (fun W hS => (A3.out W hS.bel)) ?_
    · (clear hS; go_simp; done)
    try simp only [Act.put, List.setIfInBounds_toArray, List.set_cons_zero, List.set_cons_succ]
    repeat (first
      | (refine wpSeq_off (by rfl) ?_; try simp only [Act.put, List.setIfInBounds_toArray, List.set_cons_zero, List.set_cons_succ])
      | (refine wpSeq_val (v := ?_) (by rfl) (fun W hS => ?_) ?_
         rotate_left
         · (have fx := hS.facts; simp only [factsOf, cellsOf, Nat.zero_add, Nat.reduceAdd] at fx; clear hS; go_simp; first | done | with_reducible rfl)
         try simp only [Act.put, List.setIfInBounds_toArray, List.set_cons_zero, List.set_cons_succ]))
    refine wpSeq_call (v := .agg #[.bool s2.neg, .string s2.num, .string s2.den]) (by rfl) (fun W hS => ?_) (fun W hS => (C2.out W hS.bel)) ?_
    · (clear hS; go_simp; done)
    try simp only [Act.put, List.setIfInBounds_toArray, List.set_cons_zero, List.set_cons_succ]
    repeat (first
      | (refine wpSeq_off (by rfl) ?_; try simp only [Act.put, List.setIfInBounds_toArray, List.set_cons_zero, List.set_cons_succ])
      | (refine wpSeq_val (v := ?_) (by rfl) (fun W hS => ?_) ?_
         rotate_left
         · (have fx := hS.facts; simp only [factsOf, cellsOf, Nat.zero_add, Nat.reduceAdd] at fx; clear hS; go_simp; first | done | with_reducible rfl)
         try simp only [Act.put, List.setIfInBounds_toArray, List.set_cons_zero, List.set_cons_succ]))
    refine wpSeq_nil ⟨rfl, fun W hS => ?_, fun g W hI => ?_⟩
    · go_simp
    simp only [List.setIfInBounds_toArray, List.set_cons_zero, List.set_cons_succ]
    have fx := hI.facts
    simp only [factsOf, cellsOf, Nat.zero_add, Nat.reduceAdd] at fx
    have hz := fun i => hI.free (k := 0) (i := i) rfl
    go_wp2_with fail
    go_meet
    exact ⟨g, rfl, (hI.put3 (a := []) 0 (.bool s1.neg) (.string s1.num) (.string s1.den)).put3 (a := []) 3 (.bool s2.neg) (.string s2.num) (.string s2.den)⟩
  case rest =>
    obtain ⟨g, rfl, hK⟩ := hcut
    have fx := hK.facts
    simp only [factsOf, cellsOf, Nat.zero_add, Nat.reduceAdd] at fx
    go_wp2_with fail
    refine (E1.out _ hK.bel).mono ?_
    rintro e wn ⟨rfl, hb⟩
    replace hK := hK.call hb
    clear hb
    clear fx
    have fx := hK.facts
    simp only [factsOf, cellsOf, Nat.zero_add, Nat.reduceAdd] at fx
    go_wp2_with fail
    refine (E2.out _ hK.bel).mono ?_
    rintro e wn ⟨rfl, hb⟩
    replace hK := hK.call hb
    clear hb
    clear fx
    have hN1 : IntKind.i64.wrap ((N : Int) + 1) = (N : Int) + 1 := by rw [IntKind.wrap_i64]; omega
    go_wp2_with fail
    refine (E4.out _).mono ?_
    rintro e w9 ⟨rfl, rfl⟩
    clear hN1
    go_upto_region 9 with (fail)
    go_cut [17, 18] (fun p q wx => p = .int .i64 z ∧ q = .int .i64 0 ∧ In w2 [(g, 33, #[.bool s1.neg, .string s1.num, .string s1.den, .bool s2.neg, .string s2.num, .string s2.den]), (k, 33, #[.bool r1.neg, .string r1.num, .string r1.den, .bool r2.neg, .string r2.num, .string r2.den])] wx)
    case first =>
      refine wp_region_in hK (by kernel_rfl) (by kernel_rfl) ?_
      repeat (first
        | (refine wpSeq_off (by rfl) ?_; try simp only [Act.put, List.setIfInBounds_toArray, List.set_cons_zero, List.set_cons_succ])
        | (refine wpSeq_val (v := ?_) (by rfl) (fun W hS => ?_) ?_
           rotate_left
           · (have fx := hS.facts; simp only [factsOf, cellsOf, Nat.zero_add, Nat.reduceAdd] at fx; clear hS; go_simp; first | done | with_reducible rfl)
           try simp only [Act.put, List.setIfInBounds_toArray, List.set_cons_zero, List.set_cons_succ]))
      refine wpSeq_slice_to (by rfl) 24 (.tmp 62) (.tmp 63) rfl A N c kk rfl rfl Tryd.underlying24 HTO.out ?_
      simp only [Act.put, List.setIfInBounds_toArray, List.set_cons_zero, List.set_cons_succ]
      refine wpSeq_call (v := .tuple #[.int .i64 z, .int .i64 0]) (by rfl) (fun W hS => ?_) (fun W hS => (E3.out W hS.bel)) ?_
      · (clear hS; go_simp; done)
      try simp only [Act.put, List.setIfInBounds_toArray, List.set_cons_zero, List.set_cons_succ]
      repeat (first
        | (refine wpSeq_off (by rfl) ?_; try simp only [Act.put, List.setIfInBounds_toArray, List.set_cons_zero, List.set_cons_succ])
        | (refine wpSeq_val (v := ?_) (by rfl) (fun W hS => ?_) ?_
           rotate_left
           · (have fx := hS.facts; simp only [factsOf, cellsOf, Nat.zero_add, Nat.reduceAdd] at fx; clear hS; go_simp; first | done | with_reducible rfl)
           try simp only [Act.put, List.setIfInBounds_toArray, List.set_cons_zero, List.set_cons_succ]))
      refine wpSeq_nil (fun W hS => ?_)
      go_wp2_with fail
      go_meet
      exact ⟨rfl, rfl, hS⟩
    case rest =>
      obtain ⟨rfl, rfl, hJ⟩ := hcut
      obtain ⟨L1, L2, L3⟩ := HLAW.out
      have hfin := hB.trans (hJ.bel.mono hB.size)
      rcases Int.lt_or_le x 0 with h1 | h1
      · obtain rfl : z = -1 := L2 (by omega)
        have h2 : ¬ 0 ≤ x := by omega
        clear L1 L2 L3
        go_wp2
        go_ret
        exact ⟨rfl, hfin⟩
      · obtain ⟨h3, h4⟩ : 0 ≤ y ∧ y ≤ x := by omega
        have h2 : ¬ x < 0 := by omega
        rcases Int.lt_or_le x kk with h5 | h5
        · obtain rfl : z = x := L1 ⟨h1, h5⟩
          have h6 : ¬ (kk : Int) ≤ z := by omega
          clear L1 L2 L3
          go_wp2
          go_ret
          exact ⟨rfl, hfin⟩
        · obtain rfl : z = -1 := L2 (by omega)
          have h6 : ¬ x < (kk : Int) := by omega
          clear L1 L2 L3
          go_wp2
          go_ret
          exact ⟨rfl, hfin⟩
end Go.Proofs.YthmgcbpmfipfiaaDoor.feelSooner
