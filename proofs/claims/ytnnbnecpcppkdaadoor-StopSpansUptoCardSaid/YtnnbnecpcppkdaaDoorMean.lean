/- feel.Mean. Conditions: those typed. -/
import Derived.Test.YtnnbnecpcppkdaaDoorMeanPlain
import Derived.Test.YtnnbnecpcppkdaaDoorSeqIn
import Derived.Test.YtnnbnecpcppkdaaDoorReadings
namespace Go.Proofs.YtnnbnecpcppkdaaDoor
open Go.RowKit Go.Gy
set_option linter.unusedVariables false
set_option maxRecDepth 100000 in
theorem size_quot3 (w : World) : (sizeOf (Tryd.prog.elem 48)).run Tryd.prog w = .ok 3 w := by
  obtain ⟨i, hi, _⟩ := info_parts info_rat
  exact (run_sizeOf (w := w) (show Tryd.prog.info? (Tryd.prog.elem 48) = some i from hi)).trans (congrArg (fun n => Result.ok n w) (by kernel_rfl))
set_option maxRecDepth 100000 in
theorem quots_lh (b o N C l h : Nat) (hl : l ≤ h) (hh : h ≤ C) (hlc : l < C) (w : World) : (Instr.slice 48 (.slice (some ⟨b, o, none⟩) N C) (some (.int .i64 (l : Int))) (some (.int .i64 (h : Int))) none).run Tryd.prog w = .ok (.slice (some ⟨b, o + l * 3, none⟩) (h - l) (C - l)) w := by
  rw [run_slice_lh w 48 (some ⟨b, o, none⟩) N C (by kernel_rfl) .i64 .i64 l h (by omega) (by omega) (by omega), size_quot3]
  simp only [Result.andThen, sliced, Int.toNat_natCast]
  rw [if_neg (by omega)]
  simp [add_none]
section
variable {P : Program} {ops : Array Oper} {rest : List Oper} {o : Oper} {a : Act} {w : World} {Q : Exit → Act → World → Prop}
theorem wpList_slice_lh (hgd : o.guard = none) (t : TypeId) (s x y : Operand) (ho : o.op = .slice t s (some x) (some y) none) (v v' : Value) (l h : Int) (hs : a.eval s = v) (hx : a.eval x = .int .i64 l) (hy : a.eval y = .int .i64 h)
    (hu : P.underlying t = some (.slice (P.elem t))) (hr : ∀ w, (Instr.slice t v (some (.int .i64 l)) (some (.int .i64 h)) none).run P w = .ok v' w)
    (hk : wpList P ops Q rest (a.put o.dst v') w) : wpList P ops Q (o :: rest) a w :=
  wpList_plain hgd fun _ hK => by
    unfold Oper.wp execOp
    simp only [ho, hs, hx, hy, Option.map_none, Option.map_some, run_sliceAt_slice w t _ _ _ _ hu, hr, Sem.run_bind, Sem.run_pure, Result.andThen_ok]
    exact hK _ _ hk
end
theorem rowQ_can (l : List Rat) {m : Q3} (hm : m.can) {q : Rat} (hq : m.q = q) : rowQ (l ++ [q]) = rowQ l ++ [.bool m.neg, .string m.num, .string m.den] := by
  have h : m = toQ3 m.q := hm
  rw [rowQ_snoc, ← hq]
  have h1 : m.neg = qn m.q := congrArg Q3.neg h
  have h2 : m.num = qs m.q := congrArg Q3.num h
  have h3 : m.den = qt m.q := congrArg Q3.den h
  rw [← h1, ← h2, ← h3]
def MeRel (w : World) (L : List Rat) (N n : Nat) (v i : Value) (wr : World) : Prop := ∃ k : Nat, k ≤ n ∧ i = .int .i64 k ∧ wr.ownsRow w.heap.size 25 3 v k (rowQ (meansL L N k)) ∧ Below w.heap.size w wr
/-- the inner loop: block g holds the sum of the first j of the window -/
def SuRel (w : World) (g : Nat) (win : List Rat) (B : Nat) (i : Value) (wr : World) : Prop := ∃ (j : Nat) (s : Q3), j ≤ win.length ∧ i = .int .i64 j ∧ s.q = sumL (win.take j) ∧ s.le (8 + j * (B + 1)) ∧ In w [(g, 25, #[.bool s.neg, .string s.num, .string s.den])] wr
set_option maxRecDepth 100000 in
set_option maxHeartbeats 8000000 in
theorem mean_ok (w : World) (v : Value) (l : List Q3) (h : Int) {B : Nat} (hv : SlQ w w.heap.size v l) (hl : ∀ x ∈ l, x.le B) (hB : 1 ≤ B ∧ B ≤ 134217728) (h1 : 1 ≤ h ∧ h ≤ 9223372036854775807) (hn : l.length ≤ 1000) (hT : TabW w) :
    Calls Tryd.prog 24 #[v, .int .i64 h] w fun e w' => ∃ v', e = .returned (.tuple #[v', .int .i64 0]) ∧ w'.ownsRow w.heap.size 25 3 v' l.length (rowQ (meansL (l.map Q3.q) h.toNat l.length)) ∧ Below w.heap.size w w' := by
  have HT := Lib.hid hT
  obtain ⟨i0, hi0, hz0, hz1, hz2⟩ := info_parts info_rat
  obtain ⟨A, n, c, rfl, hln, hnc, hA, hrd⟩ := hv
  subst hln
  obtain ⟨N, hN⟩ : ∃ N : Nat, h = N := ⟨h.toNat, by omega⟩
  subst hN
  rw [Int.toNat_natCast]
  have hN1 : ¬ (N : Int) < 1 := by omega
  have hni : ¬ (l.length : Int) > 1000 := by omega
  have HM := Lib.hid (show ∀ j, (l.map Q3.q)[j]? = (l[j]?).map Q3.q from fun j => List.getElem?_map)
  obtain ⟨L, hL⟩ : ∃ L, L = l.map Q3.q := ⟨_, rfl⟩
  have hLl : L.length = l.length := by rw [hL, List.length_map]
  rw [← hL] at HM ⊢
  have HLl := Lib.hid hLl
  have HRD := Lib.hid hrd
  obtain ⟨z0, q0, _, l0, O0⟩ := ofR w hT 0
  have hst := Lib.hid (show MeRel w L N l.length (.slice none 0 0) (.int .i64 0) w from ⟨0, Nat.zero_le _, rfl, ⟨rfl, .inl ⟨rfl, rfl⟩⟩, Below.refl _ _⟩)
  clear hL hrd hT hLl
  go_enter Tryd.func24, Tryd.ntmps24
  go_wp2_with fail
  go_loopw [6, 21] (fun v i wr => MeRel w L N l.length v i wr) (fun _ i _ => l.length - (intOf i).toNat)
  case atStart => exact hst.out
  case round =>
    clear hst
    obtain ⟨k, hk, rfl, hown, hbw⟩ := hrel
    obtain ⟨wo, rfl⟩ : ∃ wo, wo = wr := ⟨_, rfl⟩
    by_cases hkn : k < l.length
    · have hki : (k : Int) < (l.length : Int) := by omega
      obtain ⟨F, hF⟩ : ∃ F : Nat, F = k + 1 - N := ⟨_, rfl⟩
      have hFk : F ≤ k := by omega
      have hw1 : IntKind.i64.wrap ((k : Int) + 1) = (k : Int) + 1 := by rw [IntKind.wrap_i64]; omega
      have hw2 : IntKind.i64.wrap ((k : Int) + 1 - (N : Int)) = (k : Int) + 1 - (N : Int) := by rw [IntKind.wrap_i64]; omega
      have hmx : max (0 : Int) ((k : Int) + 1 - (N : Int)) = (F : Int) := by omega
      have hw3 : IntKind.i64.wrap ((k : Int) + 1 - (F : Int)) = ((k + 1 - F : Nat) : Int) := by rw [IntKind.wrap_i64]; omega
      have hwl := winL_length (l := L) (n := N) (i := k) (by rw [HLl.out]; exact hkn)
      have HWG := Lib.hid (fun j hj => winL_get (l := L) (n := N) (i := k) (j := j) hj)
      rw [← hF] at hwl HWG
      obtain ⟨b, o, hAe, hbB, _⟩ := HRD.out.2 (show 0 < l.length by omega)
      subst hAe
      have hcut := fun w => quots_lh b o l.length c F (k + 1) (by omega) (by omega) (by omega) w
      have Hcut := Lib.hid (show ∀ w, (Instr.slice 48 (.slice (some ⟨b, o, none⟩) l.length c) (some (.int .i64 (F : Int))) (some (.int .i64 ((k : Int) + 1))) none).run Tryd.prog w = .ok (.slice (some ⟨b, o + F * 3, none⟩) (k + 1 - F) (c - F)) w from fun w => by
        have := hcut w
        rwa [show ((k + 1 : Nat) : Int) = (k : Int) + 1 by omega] at this)
      clear hcut
      obtain ⟨win, hwin⟩ : ∃ win, win = winL L N k := ⟨_, rfl⟩
      rw [← hwin] at hwl HWG
      have HWL := Lib.hid hwl
      have HWIN := Lib.hid hwin
      have HFe := Lib.hid hF
      clear hwl hwin hF
      have hI := (In.start wo)
      have HOWN := Lib.hid hown
      replace O0 := up O0 hbw
      have HBW := Lib.hid hbw
      have HT2 := Lib.hid (tabs w HT.out hbw)
      clear hown
      go_wp2_with fail
      refine (O0.out _ hI.bel).mono ?_
      rintro e wn ⟨rfl, hb⟩
      replace hI := hI.call hb
      clear hb
      replace hI := hI.alloc 25 #[.bool z0.neg, .string z0.num, .string z0.den]
      obtain ⟨g, hg⟩ : ∃ g, g = wn.heap.size := ⟨_, rfl⟩
      rw [← hg] at hI
      have hst2 := Lib.hid (show SuRel wo g win B (.int .i64 0) _ from ⟨0, z0, Nat.zero_le _, rfl, by rw [q0]; rfl, l0.more (by omega), hI⟩)
      go_wp2_with (first
        | (refine wpList_slice_lh rfl 48 (.tmp 30) (.tmp 31) (.tmp 33) rfl _ _ (F : Int) ((k : Int) + 1) rfl rfl rfl Tryd.underlying48 Hcut.out ?_))
      rw [← hg]
      generalize World.alloc _ _ = W1 at hI hst2 ⊢
      clear hg hI
      go_loopw [36] (fun i wx => SuRel wo g win B i wx) (fun i _ => k + 1 - F - (intOf i).toNat)
      case atStart => exact hst2.out
      case round =>
        clear hst2
        obtain ⟨j, s, hj, rfl, hs, hsl, hJ⟩ := hrel
        by_cases hjn : j < k + 1 - F
        · have hji : (j : Int) < ((k + 1 - F : Nat) : Int) := by omega
          have hji2 : 0 ≤ (j : Int) ∧ (j : Int) < ((k + 1 - F : Nat) : Int) := by omega
          obtain ⟨x, hx⟩ : ∃ x, l[F + j]? = some x := ⟨_, List.getElem?_eq_getElem (by omega)⟩
          obtain ⟨b', o', he, hbB', e0, e1, e2⟩ := Rd.quot HRD.out hx
          cases he
          have hxo : x.le B := hl x (List.mem_of_getElem? hx)
          have hbo : b < wo.heap.size := Nat.lt_of_lt_of_le hbB HBW.out.size
          have d0 := (hJ.old (o := o + (F + j) * 3) hbo).trans ((HBW.out.cell (p := ⟨b, o + (F + j) * 3, none⟩) hbB).trans e0)
          have d1 := (hJ.old (o := o + (F + j) * 3 + 1) hbo).trans ((HBW.out.cell (p := ⟨b, o + (F + j) * 3 + 1, none⟩) hbB).trans e1)
          have d2 := (hJ.old (o := o + (F + j) * 3 + 2) hbo).trans ((HBW.out.cell (p := ⟨b, o + (F + j) * 3 + 2, none⟩) hbB).trans e2)
          have hoe : o + (F + j) * 3 = o + F * 3 + j * 3 := by omega
          rw [hoe] at d0 d1 d2
          have hbn : b < wr.heap.size := Nat.lt_of_lt_of_le hbo hJ.bel.size
          have hjB : j * (B + 1) ≤ 1000 * (B + 1) := Nat.mul_le_mul_right _ (by omega)
          obtain ⟨s', qs', _, ls', AD⟩ := addR wo HT2.out s x hsl hxo
          have hsum : s'.q = sumL (win.take (j + 1)) := by
            rw [qs', hs, sumL_take_succ (show win[j]? = some x.q by rw [HWG.out j hjn, HM.out, hx]; rfl)]
          have hsl' : s'.le (8 + (j + 1) * (B + 1)) := ls'.more (by rw [Nat.add_mul]; omega)
          have hwj : IntKind.i64.wrap ((j : Int) + 1) = (j : Int) + 1 := by rw [IntKind.wrap_i64]; omega
          have HN := Lib.hid (show ∀ W, In wo [(g, 25, #[.bool s'.neg, .string s'.num, .string s'.den])] W → SuRel wo g win B (.int .i64 ((j : Int) + 1)) W from fun W hW => ⟨j + 1, s', by have := HWL.out; omega, by simp, hsum, hsl', hW⟩)
          clear hs hsl qs' ls' hsum hsl' e0 e1 e2 hoe hx hjB
          have hK := hJ.alloc 25 #[.bool x.neg, .string x.num, .string x.den]
          go_upto_region 14 with (fail)
          obtain ⟨gx, hgx⟩ : ∃ gx, gx = wr.heap.size := ⟨_, rfl⟩
          rw [← hgx] at hK ⊢
          generalize World.alloc _ _ = W2 at hK ⊢
          clear hgx hJ d0 d1 d2
          refine wp_region_in_plain 3 hK ?_
          simp only [List.take_succ_cons, List.take_zero, List.drop_succ_cons, List.drop_zero]
          repeat (first
            | (refine wpSeq_off (by rfl) ?_; try simp only [Act.put, List.setIfInBounds_toArray, List.set_cons_zero, List.set_cons_succ])
            | (refine wpSeq_val (v := ?_) (by rfl) (fun W hS => ?_) ?_
               rotate_left
               · (have fx := hS.facts; simp only [factsOf, cellsOf, Nat.zero_add, Nat.reduceAdd] at fx; clear hS; go_simp; first | done | with_reducible rfl)
               try simp only [Act.put, List.setIfInBounds_toArray, List.set_cons_zero, List.set_cons_succ]))
          refine wpSeq_call (v := .agg #[.bool s'.neg, .string s'.num, .string s'.den]) (by rfl) (fun W hS => ?_) (fun W hS => (AD.out W hS.bel)) ?_
          · (clear hS; go_simp; done)
          try simp only [Act.put, List.setIfInBounds_toArray, List.set_cons_zero, List.set_cons_succ]
          refine wpSeq_nil (fun W hS => ?_)
          have hS1 := (hS.drop (a := [_])).take (a := [_])
          have fx := hS1.facts
          simp only [factsOf, cellsOf, Nat.zero_add, Nat.reduceAdd] at fx
          have hz := fun i => hS1.free (k := 0) (i := i) rfl
          have HX := Lib.hid (HN.out _ ((hS.all3 (a := [_]) (.bool s'.neg) (.string s'.num) (.string s'.den)).drop (a := [_])))
          clear hS1 hS hK
          go_wp2_with fail
          go_roundw
          case rel => exact HX.out
          case measure => simp [intOf]; omega
        · have hji : ¬ (j : Int) < ((k + 1 - F : Nat) : Int) := by omega
          obtain rfl : j = k + 1 - F := by have := HWL.out; omega
          have hsm : s.q = sumL win := by rw [hs, List.take_of_length_le (by have := HWL.out; omega)]
          have hjB : (k + 1 - F) * (B + 1) ≤ 1000 * (B + 1) := Nat.mul_le_mul_right _ (by omega)
          obtain ⟨zc, qc, _, lc, OC⟩ := ofR wo HT2.out ((k + 1 - F : Nat) : Int) (by omega)
          have hc0 : zc.q ≠ 0 := by
            rw [qc]
            intro h0
            have : (((k + 1 - F : Nat) : Int) : Rat) = ((0 : Int) : Rat) := h0
            have := Rat.intCast_inj.mp this
            omega
          obtain ⟨m, qm, cm, _, DI⟩ := divR wo HT2.out s zc (hsl.more (show _ ≤ 274877906944 by omega)) lc hc0
          have hmv : m.q = meanV L N k := by rw [qm, hsm, qc, HWIN.out]; unfold meanV; rw [← HFe.out]
          have HROW := Lib.hid (show rowQ (meansL L N (k + 1)) = rowQ (meansL L N k) ++ [.bool m.neg, .string m.num, .string m.den] from by rw [meansL_succ]; exact rowQ_can _ cm hmv)
          have hwk : IntKind.i64.wrap ((k : Int) + 1) = (k : Int) + 1 := by rw [IntKind.wrap_i64]; omega
          have HNN := Lib.hid (show ∀ v' w', w'.ownsRow w.heap.size 25 3 v' (k + 1) (rowQ (meansL L N k) ++ [.bool m.neg, .string m.num, .string m.den]) → Below w.heap.size w w' → MeRel w L N l.length v' (.int .i64 ((k : Int) + 1)) w' from fun v' w' ho hb => ⟨k + 1, hkn, by simp, by rw [HROW.out]; exact ho, hb⟩)
          clear hs hsl hsm hjB qc hc0 qm cm hmv hmx
          go_upto_region 16 with (fail)
          go_cut [12] (fun q wx => ∃ gm, q = .pointer (some ⟨gm, 0, none⟩) ∧ In wo [(gm, 25, #[.bool m.neg, .string m.num, .string m.den])] wx)
          case first =>
            refine wp_region_in_late 10 [9] _ 25 #[.bool false, .string { data := #[] }, .string { data := #[] }] hJ (by kernel_rfl) (by kernel_rfl) rfl ?_
            simp only [List.take_succ_cons, List.take_zero, List.drop_succ_cons, List.drop_zero]
            repeat (first
              | (refine wpSeqL_off (by rfl) ?_; try simp only [Act.put, List.setIfInBounds_toArray, List.set_cons_zero, List.set_cons_succ])
              | (refine wpSeqL_pure (v := ?_) (by rfl) (fun W => ?_) ?_
                 rotate_left
                 · (go_simp; first | done | with_reducible rfl)
                 try simp only [Act.put, List.setIfInBounds_toArray, List.set_cons_zero, List.set_cons_succ])
              | (refine wpSeqL_val (v := ?_) (by rfl) (by rfl) (fun W hS => ?_) ?_
                 rotate_left
                 · (have fx := hS.facts; simp only [factsOf, cellsOf, Nat.zero_add, Nat.reduceAdd] at fx; clear hS; go_simp; first | done | with_reducible rfl)
                 try simp only [Act.put, List.setIfInBounds_toArray, List.set_cons_zero, List.set_cons_succ]))
            refine wpSeqL_call (v := .agg #[.bool zc.neg, .string zc.num, .string zc.den]) (by rfl) (by rfl) (fun W hS => ?_) (fun W hS => (OC.out W hS.bel)) ?_
            · (clear hS; go_simp; done)
            try simp only [Act.put, List.setIfInBounds_toArray, List.set_cons_zero, List.set_cons_succ]
            repeat (first
              | (refine wpSeqL_off (by rfl) ?_; try simp only [Act.put, List.setIfInBounds_toArray, List.set_cons_zero, List.set_cons_succ])
              | (refine wpSeqL_pure (v := ?_) (by rfl) (fun W => ?_) ?_
                 rotate_left
                 · (go_simp; first | done | with_reducible rfl)
                 try simp only [Act.put, List.setIfInBounds_toArray, List.set_cons_zero, List.set_cons_succ])
              | (refine wpSeqL_val (v := ?_) (by rfl) (by rfl) (fun W hS => ?_) ?_
                 rotate_left
                 · (have fx := hS.facts; simp only [factsOf, cellsOf, Nat.zero_add, Nat.reduceAdd] at fx; clear hS; go_simp; first | done | with_reducible rfl)
                 try simp only [Act.put, List.setIfInBounds_toArray, List.set_cons_zero, List.set_cons_succ]))
            refine wpSeqL_call (v := .tuple #[.agg #[.bool m.neg, .string m.num, .string m.den], .int .i64 0]) (by rfl) (by rfl) (fun W hS => ?_) (fun W hS => (DI.out W hS.bel)) ?_
            · (clear hS; go_simp; done)
            try simp only [Act.put, List.setIfInBounds_toArray, List.set_cons_zero, List.set_cons_succ]
            repeat (first
              | (refine wpSeqL_off (by rfl) ?_; try simp only [Act.put, List.setIfInBounds_toArray, List.set_cons_zero, List.set_cons_succ])
              | (refine wpSeqL_pure (v := ?_) (by rfl) (fun W => ?_) ?_
                 rotate_left
                 · (go_simp; first | done | with_reducible rfl)
                 try simp only [Act.put, List.setIfInBounds_toArray, List.set_cons_zero, List.set_cons_succ])
              | (refine wpSeqL_val (v := ?_) (by rfl) (by rfl) (fun W hS => ?_) ?_
                 rotate_left
                 · (have fx := hS.facts; simp only [factsOf, cellsOf, Nat.zero_add, Nat.reduceAdd] at fx; clear hS; go_simp; first | done | with_reducible rfl)
                 try simp only [Act.put, List.setIfInBounds_toArray, List.set_cons_zero, List.set_cons_succ]))
            refine wpSeqL_nil ⟨rfl, fun W hS => ?_, fun g W hI => ?_⟩
            · go_simp
            simp only [List.setIfInBounds_toArray, List.set_cons_zero, List.set_cons_succ]
            have hS1 := hI.take (a := [_])
            have fx := hS1.facts
            simp only [factsOf, cellsOf, Nat.zero_add, Nat.reduceAdd] at fx
            have hz := fun i => hS1.free (k := 0) (i := i) rfl
            have HX := Lib.hid ((hI.all3 (a := []) (.bool m.neg) (.string m.num) (.string m.den)).take (a := [_]))
            clear hS1 hI hJ
            go_wp2_with fail
            refine NoPanic.normal ?_
            go_wp2_with fail
            go_meet
            exact ⟨g, rfl, HX.out⟩
          case rest =>
            obtain ⟨gm, rfl, hK⟩ := hcut
            clear hJ
            have fx := hK.facts
            simp only [factsOf, cellsOf, Nat.zero_add, Nat.reduceAdd] at fx
            have Ho := Lib.hid (own_below HOWN.out hK.bel (Nat.le_refl _))
            have hBK := HBW.out.trans (hK.bel.mono HBW.out.size)
            have hbase := hBK.size
            have HBK := Lib.hid hBK
            clear hK hBK
            go_wp2_with (at_builtin; refine wpList_push rfl (.tmp 54) (.tmp 56) 48 rfl w.heap.size 25 i0 (.agg #[.bool false, .string { data := #[] }, .string { data := #[] }]) 3 40 Tryd.underlying48 hi0 hz0 hz1 hz2 rfl (by omega) _ k _ rfl Ho.out [.bool m.neg, .string m.num, .string m.den] rfl rfl (by simp [Value.oneCell']) (by unfold maxLen; omega) (by omega) hbase ?_; intro v6 w6 hn6 hb6 _)
            have hrel := HNN.out _ _ hn6 (HBK.out.trans hb6)
            clear hn6 hb6 fx
            go_roundw
            case rel => exact hrel
            case measure => simp [intOf]; omega
    · obtain rfl : k = l.length := by omega
      have hki : ¬ (l.length : Int) < (l.length : Int) := by omega
      have Ho := Lib.hid hown
      clear hown
      go_wp2
      refine bodyPost_ret (results_tmp2 rfl _ _ _) rfl ?_
      exact ⟨_, rfl, Ho.out, hbw⟩
end Go.Proofs.YtnnbnecpcppkdaaDoor
