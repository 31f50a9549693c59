/- FeelMean: the walk. Conditions: those typed. -/
import Derived.Test.YtnnbnecpcppkdaaDoorReadings
import Derived.Test.YtnnbnecpcppkdaaDoorNoneF
import Derived.Test.YtnnbnecpcppkdaaDoorTied
import Derived.Test.YtnnbnecpcppkdaaDoorFeelS
import Derived.Test.YtnnbnecpcppkdaaDoorTwoF
import Derived.Test.YtnnbnecpcppkdaaDoorInvJ
import Derived.Test.YtnnbnecpcppkdaaDoorQArgs
import Derived.Test.YtnnbnecpcppkdaaDoorMeanLaw
import Derived.Test.YtnnbnecpcppkdaaDoorZero
import Derived.Test.YtnnbnecpcppkdaaDoorRepeatQ
import Derived.Test.YtnnbnecpcppkdaaDoorEqualQ
import Derived.Outline
namespace Go.Proofs.YtnnbnecpcppkdaaDoor.feelMean
open Go.RowKit Go.Gy
set_option linter.unusedVariables false
theorem wf_i64 {n : Int} (h : wfI .i64 n) : -9223372036854775808 ≤ n ∧ n ≤ 9223372036854775807 := by
  simpa [wfI, Lit.wf, IntKind.min, IntKind.max, IntKind.signed, IntKind.bits] using h
theorem enters_own {f : FuncId} {fn : Func} {c : Code} (hf : Tryd.prog.funcs[f]? = some fn) (hname : (fn.name == "runtime.NumGoroutine") = false) (hb : fn.body = some c) (args : Array Value) (w : World) : (callFunc f args).run Tryd.prog w = .ok (.enter f args) w := by
  have h1 : fn.name ≠ "runtime.NumGoroutine" := by simpa using hname
  simp [callFunc, hf, h1, hb, mark]
theorem zeroF (w : World) (hT : TabW w) (x : Q3) {N : Nat} (hx : x.le N) (h0 : x.q = 0) (hN : N ≤ 8796093022208) :
    Hid (∀ W, Below w.heap.size w W → Calls Tryd.prog 32 #[.agg #[.bool x.neg, .string x.num, .string x.den]] W fun r w' => r = .returned (.bool false) ∧ Below W.heap.size W w') := by
  obtain ⟨c, _, p1, p2, SG⟩ := signR w hT x hx
  have hc : c = 0 := by
    have h1 : ¬ 0 < c := fun h => by have := p1.mp h; rw [h0] at this; exact absurd this (by decide)
    have h2 : ¬ c < 0 := fun h => by have := p2.mp h; rw [h0] at this; exact absurd this (by decide)
    omega
  subst hc
  refine Lib.hid fun W0 hW0 => ?_
  replace SG := up SG hW0
  have hI := (In.start W0).alloc 25 #[.bool x.neg, .string x.num, .string x.den]
  clear p1 p2 hT hW0
  go_enter Tryd.func32, Tryd.ntmps32
  go_upto_region 1 with (fail)
  generalize World.alloc _ _ = W1 at hI ⊢
  have fx := hI.facts
  simp only [factsOf, cellsOf, Nat.zero_add, Nat.reduceAdd] at fx
  go_wp2_with fail
  refine (SG.out _ hI.bel).mono ?_
  rintro e wn ⟨rfl, hb⟩
  replace hI := hI.call hb
  clear hb
  go_wp2
  go_ret
  exact ⟨rfl, hI.bel⟩
def FmRel (w : World) (n : Nat) (i : Value) (wr : World) : Prop := ∃ k : Nat, k ≤ n ∧ i = .int .i64 k ∧ In w [] wr
def LhRel (w : World) (g1 g2 : Nat) (L : List Q3) (F n : Nat) (i : Value) (wr : World) : Prop := ∃ (j : Nat) (lo hi : Q3), j ≤ n ∧ i = .int .i64 j ∧ lo.le 1 ∧ hi.le 1 ∧ (∀ (t : Nat) (y : Q3), t < j → L[F + t]? = some y → lo.q ≤ y.q ∧ y.q ≤ hi.q) ∧ In w [(g2, 25, #[.bool hi.neg, .string hi.num, .string hi.den]), (g1, 25, #[.bool lo.neg, .string lo.num, .string lo.den])] wr
/-- region 11: what is listed, and what it yielded -/
def J11 (wo : World) (x : Q3) (vals : List Value) (s : Nat → Bool) (vs : Nat → Value) (W : World) : Prop :=
  (∀ j v, vals[j]? = some v → s j = true → vs j = v) ∧ (s 10 = true → s 8 = true) ∧
    InT wo [] 25 (if s 10 = true then #[.bool x.neg, .string x.num, .string x.den] else #[.bool false, .string { data := #[] }, .string { data := #[] }]) 25 #[.bool false, .string { data := #[] }, .string { data := #[] }] (if s 8 = true then some (vs 8) else none) (if s 9 = true then some (vs 9) else none) W
section
variable {wo : World} {x : Q3} {vals : List Value} {s : Nat → Bool} {vs : Nat → Value} {W : World}
theorem J11.start (h : In wo [] W) : J11 wo x vals (fun _ => false) (fun _ => undef) W := ⟨(fun _ _ _ h => (by cases h)), (fun h => (by cases h)), h⟩
theorem J11.bel (h : J11 wo x vals s vs W) : Below wo.heap.size wo W := by
  obtain ⟨_, _, h⟩ := h
  split at h <;> split at h <;> split at h
  all_goals first
    | exact In.bel h
    | (obtain ⟨g, _, h⟩ := h; exact h.bel)
    | (obtain ⟨g1, g2, _, _, h⟩ := h; exact h.bel)
theorem J11.pure (h : J11 wo x vals s vs W) {i : Nat} {v : Value} (hi : i < 8) (hv : vals[i]? = some v) : J11 wo x vals (updI s i true) (updI vs i v) W := by
  obtain ⟨h1, h2, h3⟩ := h
  refine ⟨fun j u hj hs => ?_, ?_, ?_⟩
  · by_cases hji : j = i
    · subst hji
      rw [updI_same]
      rw [hv] at hj
      exact Option.some.inj hj
    · rw [updI_ne vs v hji]
      rw [updI_ne s true hji] at hs
      exact h1 j u hj hs
  · rw [updI_ne s true (show 10 ≠ i by omega), updI_ne s true (show 8 ≠ i by omega)]
    exact h2
  · rw [updI_ne s true (show 10 ≠ i by omega), updI_ne s true (show 8 ≠ i by omega), updI_ne s true (show 9 ≠ i by omega), updI_ne vs v (show 8 ≠ i by omega), updI_ne vs v (show 9 ≠ i by omega)]
    exact h3
theorem J11.alloc8 (h : J11 wo x vals s vs W) (hs : s 8 = false) (hl : vals.length = 8) : J11 wo x vals (updI s 8 true) (updI vs 8 (.pointer (some ⟨W.heap.size, 0, none⟩))) (W.alloc (.cells #[.bool false, .string { data := #[] }, .string { data := #[] }] 25)) := by
  obtain ⟨h1, h2, h3⟩ := h
  have hs10 : s 10 = false := by
    cases h10 : s 10 with
    | false => rfl
    | true => rw [h2 h10] at hs; cases hs
  refine ⟨fun j u hj hsj => ?_, fun _ => updI_same _ _ _, ?_⟩
  · have : j < 8 := by rw [← hl]; exact (List.getElem?_eq_some_iff.1 hj).1
    rw [updI_ne vs _ (show j ≠ 8 by omega)]
    rw [updI_ne s true (show j ≠ 8 by omega)] at hsj
    exact h1 j u hj hsj
  · rw [updI_ne s true (show 10 ≠ 8 by omega), updI_ne s true (show 9 ≠ 8 by omega), updI_ne vs _ (show 9 ≠ 8 by omega), updI_same, updI_same, hs10]
    rw [hs10, hs] at h3
    cases h9 : s 9 with
    | false =>
      rw [h9] at h3
      exact ⟨W.heap.size, rfl, In.alloc h3 _ _⟩
    | true =>
      rw [h9] at h3
      obtain ⟨g, hg, h⟩ := h3
      exact ⟨W.heap.size, g, rfl, hg, (In.alloc h _ _).swap⟩
theorem J11.alloc9 (h : J11 wo x vals s vs W) (hs : s 9 = false) (hl : vals.length = 8) : J11 wo x vals (updI s 9 true) (updI vs 9 (.pointer (some ⟨W.heap.size, 0, none⟩))) (W.alloc (.cells #[.bool false, .string { data := #[] }, .string { data := #[] }] 25)) := by
  obtain ⟨h1, h2, h3⟩ := h
  refine ⟨fun j u hj hsj => ?_, ?_, ?_⟩
  · have : j < 8 := by rw [← hl]; exact (List.getElem?_eq_some_iff.1 hj).1
    rw [updI_ne vs _ (show j ≠ 9 by omega)]
    rw [updI_ne s true (show j ≠ 9 by omega)] at hsj
    exact h1 j u hj hsj
  · rw [updI_ne s true (show 10 ≠ 9 by omega), updI_ne s true (show 8 ≠ 9 by omega)]
    exact h2
  · rw [updI_ne s true (show 10 ≠ 9 by omega), updI_ne s true (show 8 ≠ 9 by omega), updI_ne vs _ (show 8 ≠ 9 by omega), updI_same, updI_same]
    rw [hs] at h3
    cases h8 : s 8 with
    | false =>
      rw [h8] at h3
      exact ⟨W.heap.size, rfl, In.alloc h3 _ _⟩
    | true =>
      rw [h8] at h3
      obtain ⟨g, hg, h⟩ := h3
      exact ⟨g, W.heap.size, hg, rfl, In.alloc h _ _⟩
/-- ahead of the first store -/
theorem J11.at8 (h : J11 wo x vals s vs W) (hs8 : s 8 = true) (hs : s 10 = false) (hl : vals.length = 8) : ∃ g, vs 8 = .pointer (some ⟨g, 0, none⟩) ∧ In wo [(g, 25, #[.bool false, .string { data := #[] }, .string { data := #[] }])] W ∧
    J11 wo x vals (updI s 10 true) (updI vs 10 undef) (((W.setCell ⟨g, 0, none⟩ (.bool x.neg)).setCell ⟨g, 1, none⟩ (.string x.num)).setCell ⟨g, 2, none⟩ (.string x.den)) := by
  obtain ⟨h1, h2, h3⟩ := h
  have key : ∀ {W' : World}, InT wo [] 25 #[.bool x.neg, .string x.num, .string x.den] 25 #[.bool false, .string { data := #[] }, .string { data := #[] }] (some (vs 8)) (if s 9 = true then some (vs 9) else none) W' → J11 wo x vals (updI s 10 true) (updI vs 10 undef) W' := fun h => by
    refine ⟨fun j u hj hsj => ?_, fun _ => ?_, ?_⟩
    · have : j < 8 := by rw [← hl]; exact (List.getElem?_eq_some_iff.1 hj).1
      rw [updI_ne vs _ (show j ≠ 10 by omega)]
      rw [updI_ne s true (show j ≠ 10 by omega)] at hsj
      exact h1 j u hj hsj
    · rw [updI_ne s true (show 8 ≠ 10 by omega)]; exact hs8
    · rw [updI_same, updI_ne s true (show 8 ≠ 10 by omega), updI_ne s true (show 9 ≠ 10 by omega), updI_ne vs _ (show 8 ≠ 10 by omega), updI_ne vs _ (show 9 ≠ 10 by omega), hs8]
      exact h
  rw [hs8, hs] at h3
  cases h9 : s 9 with
  | false =>
    rw [h9] at h3 key
    obtain ⟨g, hg, h⟩ := h3
    exact ⟨g, hg, h, key ⟨g, hg, In.all3 (a := []) h _ _ _⟩⟩
  | true =>
    rw [h9] at h3 key
    obtain ⟨g, g2, hg, hg2, h⟩ := h3
    exact ⟨g, hg, h.tail, key ⟨g, g2, hg, hg2, In.all3 (a := [_]) h _ _ _⟩⟩
theorem J11.fin (h : J11 wo x vals s vs W) (hs : ∀ i, i < 11 → s i = true) : ∃ g1 g2, vs 8 = .pointer (some ⟨g1, 0, none⟩) ∧ vs 9 = .pointer (some ⟨g2, 0, none⟩) ∧ In wo [(g2, 25, #[.bool false, .string { data := #[] }, .string { data := #[] }]), (g1, 25, #[.bool x.neg, .string x.num, .string x.den])] W := by
  obtain ⟨_, _, h⟩ := h
  rw [hs 8 (by omega), hs 9 (by omega), hs 10 (by omega)] at h
  exact h
end
set_option maxRecDepth 100000 in
set_option maxHeartbeats 8000000 in
theorem walk (v0 : Value) (a b : Int) (w : World) {b0 : Nat} (f0 : IntsArg w v0 b0) (wa : wfI .i64 a) (wb : wfI .i64 b) (hT : TabW w) :
    Calls Tryd.prog 4 #[v0, .int .i64 a, .int .i64 b] w fun e w' => e = .returned (.bool true) ∧ Below w.heap.size w w' := by
  obtain ⟨r, hl, hi, _, _⟩ := f0
  have HT := Lib.hid hT
  have HF := feels_any w hT
  have Hl := Lib.hid hl
  have Hi := Lib.hid hi
  clear hl hi wa hT
  have hm1 := Int.emod_nonneg a (b := 9) (by omega)
  have hm2 := Int.emod_lt_of_pos a (b := 9) (by omega)
  obtain ⟨q, hq⟩ : ∃ q, a % 9 = q := ⟨_, rfl⟩
  have E4 := Lib.hid (fun W => below_any a 9 W (by omega) (by omega))
  rw [hq] at E4 hm1 hm2
  go_enter Tryd.func4, Tryd.ntmps4
  go_wp2_with fail
  refine HF.mono ?_
  rintro e w1 ⟨rfl, hb1⟩
  go_wp2_with fail
  refine (readings_any w1 v0 r ((Hl.out.below hb1).more hb1.size) Hi.out).mono ?_
  rintro e w2 ⟨v, rfl, hown, hb2⟩
  have hB := hb1.trans (hb2.mono hb1.size)
  have HT2 := Lib.hid (tabs w HT.out hB)
  have hv : SlQ w2 w2.heap.size v ((readM r).map toQ3) := SlQ.own hown
  have hlo : ∀ x ∈ (readM r).map toQ3, x.le 1 := by
    intro x hx
    obtain ⟨q, hq, rfl⟩ := List.mem_map.1 hx
    obtain ⟨z, _, rfl⟩ := List.mem_map.1 hq
    exact toQ3_le (ratM_small z)
  have hll : ((readM r).map toQ3).length ≤ 40 := by
    unfold readM
    rw [List.length_map, List.length_map, List.length_take]
    omega
  obtain ⟨L, hL⟩ : ∃ L, L = (readM r).map toQ3 := ⟨_, rfl⟩
  rw [← hL] at hv hlo hll
  clear hown hb1 hb2 HF Hl Hi hL hq
  obtain ⟨N, hN⟩ : ∃ N : Nat, 1 + q = (N : Int) := ⟨(1 + q).toNat, by omega⟩
  have hwq : IntKind.i64.wrap (1 + q) = (N : Int) := by rw [IntKind.wrap_i64]; omega
  have h5 : 1 ≤ N ∧ N ≤ 9 := by omega
  clear hm1 hm2 hN
  have HM := Lib.hid (mean_ok w2 v L (N : Int) (B := 1) hv hlo (by omega) (by omega) (by omega) HT2.out)
  rw [Int.toNat_natCast] at HM
  obtain ⟨A, n, c, rfl, hln, hnc, hA, hrd⟩ := hv
  have HRD := Lib.hid hrd
  subst hln
  clear hrd
  go_wp2_with fail
  refine (E4.out _).mono ?_
  rintro e w3 ⟨rfl, hw3⟩
  subst w3
  go_wp2_with fail
  refine HM.out.mono ?_
  rintro e w4 ⟨v', rfl, hown, hb⟩
  obtain ⟨A', c', rfl, hnc', _, hrd'⟩ := own_rd hown
  have HRD' := Lib.hid hrd'
  have HB4 := Lib.hid (hB.trans (hb.mono hB.size))
  have HB24 := Lib.hid hb
  have HT4 := Lib.hid (tabs w2 HT2.out hb)
  have hst := Lib.hid (show FmRel w4 L.length (.int .i64 0) w4 from ⟨0, Nat.zero_le _, rfl, In.start w4⟩)
  clear hown hrd' hb hB HM
  go_wp2_with fail
  go_loopw [44] (fun i wr => FmRel w4 L.length i wr) (fun i _ => L.length - (intOf i).toNat)
  case atStart => exact hst.out
  case round =>
    clear hst
    obtain ⟨k, hk, rfl, hI⟩ := hrel
    obtain ⟨wo, rfl⟩ : ∃ wo, wo = wr := ⟨_, rfl⟩
    by_cases hkn : k < L.length
    · have hki : (k : Int) < (L.length : Int) := by omega
      have hki2 : 0 ≤ (k : Int) ∧ (k : Int) < (L.length : Int) := by omega
      obtain ⟨F, hF⟩ : ∃ F : Nat, F = k + 1 - N := ⟨_, rfl⟩
      have hFk : F ≤ k := by omega
      have hw1 : IntKind.i64.wrap ((k : Int) + 1) = (k : Int) + 1 := by rw [IntKind.wrap_i64]; omega
      have hw2 : IntKind.i64.wrap ((k : Int) + 1 - (N : Int)) = (k : Int) + 1 - (N : Int) := by rw [IntKind.wrap_i64]; omega
      have hmx : max (0 : Int) ((k : Int) + 1 - (N : Int)) = (F : Int) := by omega
      obtain ⟨x, hx⟩ : ∃ x, L[k]? = some x := ⟨_, List.getElem?_eq_getElem hkn⟩
      have HX := Lib.hid hx
      obtain ⟨b, o, hAe, hbB, e0, e1, e2⟩ := Rd.quot HRD.out hx
      subst hAe
      have hxo : x.le 1 := hlo x (List.mem_of_getElem? hx)
      have HBo := Lib.hid (HB24.out.trans (hI.bel.mono HB24.out.size))
      have hbo : b < wo.heap.size := Nat.lt_of_lt_of_le hbB HBo.out.size
      have d0 := (HBo.out.cell (p := ⟨b, o + k * 3, none⟩) hbB).trans e0
      have d1 := (HBo.out.cell (p := ⟨b, o + k * 3 + 1, none⟩) hbB).trans e1
      have d2 := (HBo.out.cell (p := ⟨b, o + k * 3 + 2, none⟩) hbB).trans e2
      have HI4 := Lib.hid hI
      replace hI := In.start wo
      have HFe := Lib.hid hF
      clear e0 e1 e2 hF hx
      have hxa : x.le 1 := hxo
      have HTo := Lib.hid (tabs w2 HT2.out HBo.out)
      have hki3 : ((L.length : Int)) = (L.length : Int) := rfl
      clear hki3
      go_upto_region 11 with (fail)
      refine wp_region_invJ 11 (J11 wo x [.slice (some ⟨b, o, none⟩) L.length c, .int .i64 k, .pointer (some ⟨b, o + k * 3, none⟩), .agg #[.bool x.neg, .string x.num, .string x.den], .slice (some ⟨b, o, none⟩) L.length c, .int .i64 k, .pointer (some ⟨b, o + k * 3, none⟩), .agg #[.bool x.neg, .string x.num, .string x.den]]) (by kernel_rfl) (by kernel_rfl) (J11.start hI.drew) ?_ ?_
      · as_aux_lemma =>
        clear hI HRD' HX HI4 HB4 HB24 E4 HT4 HT2 HTo HFe
        intro i op hi ho us vs W hJ hsi hdep
        have hb := hJ.bel
        have c0 := (hb.cell (p := ⟨b, o + k * 3, none⟩) hbo).trans d0
        have c1 := (hb.cell (p := ⟨b, o + k * 3 + 1, none⟩) hbo).trans d1
        have c2 := (hb.cell (p := ⟨b, o + k * 3 + 2, none⟩) hbo).trans d2
        have hbn := Nat.lt_of_lt_of_le hbo hb.size
        clear d0 d1 d2 hb
        rcases i with _ | _ | _ | _ | _ | _ | _ | _ | _ | _ | _ | i
        all_goals first | omega | skip
        all_goals (simp only [List.getElem?_cons_succ, List.getElem?_cons_zero, Option.some.injEq] at ho; subst ho)
        · refine StepJ.val rfl ?_ (hJ.pure (i := 0) (by omega) rfl)
          clear hJ
          unfold lexA
          simp only [putAll, preI, Nat.reduceLT, Nat.reduceAdd, decide_false, Bool.false_eq_true, if_false]
          go_simp
        · refine StepJ.val rfl ?_ (hJ.pure (i := 1) (by omega) rfl)
          clear hJ
          unfold lexA
          simp only [putAll, preI, Nat.reduceLT, Nat.reduceAdd, decide_true, decide_false, Bool.false_eq_true, if_true, if_false, Act.put, List.setIfInBounds_toArray, List.set_cons_zero, List.set_cons_succ]
          go_simp
        · have a0 : vs 0 = .slice (some ⟨b, o, none⟩) L.length c := hJ.1 0 _ rfl (hdep ⟨0, .data⟩ (by simp) rfl)
          have a1 : vs 1 = .int .i64 k := hJ.1 1 _ rfl (hdep ⟨1, .data⟩ (by simp) rfl)
          refine StepJ.val rfl ?_ (hJ.pure (i := 2) (by omega) rfl)
          clear hJ hdep
          unfold lexA
          simp only [putAll, preI, Nat.reduceLT, Nat.reduceAdd, decide_true, decide_false, Bool.false_eq_true, if_true, if_false, Act.put, List.setIfInBounds_toArray, List.set_cons_zero, List.set_cons_succ]
          go_simp
        · have a2 : vs 2 = .pointer (some ⟨b, o + k * 3, none⟩) := hJ.1 2 _ rfl (hdep ⟨2, .data⟩ (by simp) rfl)
          refine StepJ.val rfl ?_ (hJ.pure (i := 3) (by omega) rfl)
          clear hJ hdep
          unfold lexA
          simp only [putAll, preI, Nat.reduceLT, Nat.reduceAdd, decide_true, decide_false, Bool.false_eq_true, if_true, if_false, Act.put, List.setIfInBounds_toArray, List.set_cons_zero, List.set_cons_succ]
          go_simp
        · refine StepJ.val rfl ?_ (hJ.pure (i := 4) (by omega) rfl)
          clear hJ
          unfold lexA
          simp only [putAll, preI, Nat.reduceLT, Nat.reduceAdd, decide_true, decide_false, Bool.false_eq_true, if_true, if_false, Act.put, List.setIfInBounds_toArray, List.set_cons_zero, List.set_cons_succ]
          go_simp
        · refine StepJ.val rfl ?_ (hJ.pure (i := 5) (by omega) rfl)
          clear hJ
          unfold lexA
          simp only [putAll, preI, Nat.reduceLT, Nat.reduceAdd, decide_true, decide_false, Bool.false_eq_true, if_true, if_false, Act.put, List.setIfInBounds_toArray, List.set_cons_zero, List.set_cons_succ]
          go_simp
        · have a4 : vs 4 = .slice (some ⟨b, o, none⟩) L.length c := hJ.1 4 _ rfl (hdep ⟨4, .data⟩ (by simp) rfl)
          have a5 : vs 5 = .int .i64 k := hJ.1 5 _ rfl (hdep ⟨5, .data⟩ (by simp) rfl)
          refine StepJ.val rfl ?_ (hJ.pure (i := 6) (by omega) rfl)
          clear hJ hdep
          unfold lexA
          simp only [putAll, preI, Nat.reduceLT, Nat.reduceAdd, decide_true, decide_false, Bool.false_eq_true, if_true, if_false, Act.put, List.setIfInBounds_toArray, List.set_cons_zero, List.set_cons_succ]
          go_simp
        · have a6 : vs 6 = .pointer (some ⟨b, o + k * 3, none⟩) := hJ.1 6 _ rfl (hdep ⟨6, .data⟩ (by simp) rfl)
          refine StepJ.val rfl ?_ (hJ.pure (i := 7) (by omega) rfl)
          clear hJ hdep
          unfold lexA
          simp only [putAll, preI, Nat.reduceLT, Nat.reduceAdd, decide_true, decide_false, Bool.false_eq_true, if_true, if_false, Act.put, List.setIfInBounds_toArray, List.set_cons_zero, List.set_cons_succ]
          go_simp
        · refine StepJ.val rfl ?_ (hJ.alloc8 hsi rfl)
          clear hJ
          unfold lexA
          simp only [putAll, preI, Nat.reduceLT, Nat.reduceAdd, decide_true, decide_false, Bool.false_eq_true, if_true, if_false, Act.put, List.setIfInBounds_toArray, List.set_cons_zero, List.set_cons_succ]
          go_simp
        · refine StepJ.val rfl ?_ (hJ.alloc9 hsi rfl)
          clear hJ
          unfold lexA
          simp only [putAll, preI, Nat.reduceLT, Nat.reduceAdd, decide_true, decide_false, Bool.false_eq_true, if_true, if_false, Act.put, List.setIfInBounds_toArray, List.set_cons_zero, List.set_cons_succ]
          go_simp
        · have a3 : vs 3 = .agg #[.bool x.neg, .string x.num, .string x.den] := hJ.1 3 _ rfl (hdep ⟨3, .data⟩ (by simp) rfl)
          obtain ⟨g, a8, hG, hN⟩ := hJ.at8 (hdep ⟨8, .data⟩ (by simp) rfl) hsi rfl
          refine StepJ.skip rfl ?_ hN
          have fx := hG.facts
          simp only [factsOf, cellsOf, Nat.zero_add, Nat.reduceAdd] at fx
          have hz := fun i => hG.free (k := 0) (i := i) rfl
          clear hJ hdep hG hN
          unfold lexA
          simp only [putAll, preI, Nat.reduceLT, Nat.reduceAdd, decide_true, decide_false, Bool.false_eq_true, if_true, if_false, Act.put, List.setIfInBounds_toArray, List.set_cons_zero, List.set_cons_succ]
          go_simp
      · intro us vs W hs hJ
        have a0 : vs 0 = .slice (some ⟨b, o, none⟩) L.length c := hJ.1 0 _ rfl (hs 0 (by omega))
        have a1 : vs 1 = .int .i64 k := hJ.1 1 _ rfl (hs 1 (by omega))
        have a2 : vs 2 = .pointer (some ⟨b, o + k * 3, none⟩) := hJ.1 2 _ rfl (hs 2 (by omega))
        have a3 : vs 3 = .agg #[.bool x.neg, .string x.num, .string x.den] := hJ.1 3 _ rfl (hs 3 (by omega))
        have a4 : vs 4 = .slice (some ⟨b, o, none⟩) L.length c := hJ.1 4 _ rfl (hs 4 (by omega))
        have a5 : vs 5 = .int .i64 k := hJ.1 5 _ rfl (hs 5 (by omega))
        have a6 : vs 6 = .pointer (some ⟨b, o + k * 3, none⟩) := hJ.1 6 _ rfl (hs 6 (by omega))
        have a7 : vs 7 = .agg #[.bool x.neg, .string x.num, .string x.den] := hJ.1 7 _ rfl (hs 7 (by omega))
        obtain ⟨g1, g2, a8, a9, hK⟩ := hJ.fin hs
        unfold lexA
        simp only [putAll, preI, Nat.reduceLT, Nat.reduceAdd, decide_true, decide_false, Bool.false_eq_true, if_true, if_false, Act.put, List.setIfInBounds_toArray, List.set_cons_zero, List.set_cons_succ, List.drop_succ_cons, List.drop_zero]
        rw [a0, a1, a2, a3, a4, a5, a6, a7, a8, a9]
        clear a0 a1 a2 a3 a4 a5 a6 a7 a8 a9 hJ hs hI
        have hS1 := hK.take (a := [_])
        have fx := hS1.facts
        simp only [factsOf, cellsOf, Nat.zero_add, Nat.reduceAdd] at fx
        have hz := fun i => hS1.free (k := 0) (i := i) rfl
        have HX2 := Lib.hid (hK.all3 (a := []) (.bool x.neg) (.string x.num) (.string x.den))
        clear hS1 hK
        go_upto_region 12 with (fail)
        have hI : In wo [(g2, 25, #[.bool x.neg, .string x.num, .string x.den]), (g1, 25, #[.bool x.neg, .string x.num, .string x.den])] _ := HX2.out
        clear HX2 fx hz d0 d1 d2
        generalize World.setCell _ _ _ = W2 at hI ⊢
        have Hcut := Lib.hid (show ∀ w, (Instr.slice 48 (.slice (some ⟨b, o, none⟩) L.length c) (some (.int .i64 (F : Int))) (some (.int .i64 ((k : Int) + 1))) none).run Tryd.prog w = .ok (.slice (some ⟨b, o + F * 3, none⟩) (k + 1 - F) (c - F)) w from fun w => by
          have := quots_lh b o L.length c F (k + 1) (by omega) (by omega) (by omega) w
          rwa [show ((k + 1 : Nat) : Int) = (k : Int) + 1 by omega] at this)
        have hst2 := Lib.hid (show LhRel wo g1 g2 L F (k + 1 - F) (.int .i64 0) W2 from ⟨0, x, x, Nat.zero_le _, rfl, hxa, hxa, fun t y h => absurd h (Nat.not_lt_zero t), hI⟩)
        clear hI
        go_wp2_with (first
          | (refine wpList_slice_lh rfl 48 (.tmp 55) (.tmp 60) (.tmp 62) rfl _ _ (F : Int) ((k : Int) + 1) rfl rfl rfl Tryd.underlying48 Hcut.out ?_))
        clear Hcut
        go_loopw [65] (fun i wx => LhRel wo g1 g2 L F (k + 1 - F) i wx) (fun i _ => k + 1 - F - (intOf i).toNat)
        case atStart => exact hst2.out
        case round =>
          clear hst2
          obtain ⟨j, lo, hi, hjn0, rfl, llo, lhi, hbd, hJ⟩ := hrel
          have HBD := Lib.hid hbd
          clear hbd
          by_cases hjn : j < k + 1 - F
          · have hji : (j : Int) < ((k + 1 - F : Nat) : Int) := by omega
            have hji2 : 0 ≤ (j : Int) ∧ (j : Int) < ((k + 1 - F : Nat) : Int) := by omega
            obtain ⟨y, hy⟩ : ∃ y, L[F + j]? = some y := ⟨_, List.getElem?_eq_getElem (by omega)⟩
            have HY := Lib.hid hy
            obtain ⟨b', o', he, hbB', e0, e1, e2⟩ := Rd.quot HRD.out hy
            cases he
            have lyo : y.le 1 := hlo y (List.mem_of_getElem? hy)
            have d0 := (hJ.old (o := o + (F + j) * 3) hbo).trans ((HBo.out.cell (p := ⟨b, o + (F + j) * 3, none⟩) hbB).trans e0)
            have d1 := (hJ.old (o := o + (F + j) * 3 + 1) hbo).trans ((HBo.out.cell (p := ⟨b, o + (F + j) * 3 + 1, none⟩) hbB).trans e1)
            have d2 := (hJ.old (o := o + (F + j) * 3 + 2) hbo).trans ((HBo.out.cell (p := ⟨b, o + (F + j) * 3 + 2, none⟩) hbB).trans e2)
            have hoe : o + (F + j) * 3 = o + F * 3 + j * 3 := by omega
            rw [hoe] at d0 d1 d2
            have hbn : b < wr.heap.size := Nat.lt_of_lt_of_le hbo hJ.bel.size
            obtain ⟨lo2, ql2, _, ll2, MI⟩ := minR wo HTo.out lo y llo lyo
            obtain ⟨hi2, qh2, _, lh2, MA⟩ := maxR wo HTo.out hi y lhi lyo
            have HNB := Lib.hid (show ∀ (t : Nat) (z : Q3), t < j + 1 → L[F + t]? = some z → lo2.q ≤ z.q ∧ z.q ≤ hi2.q from fun t z ht hz => by
              rw [ql2, qh2]
              have m1 : minQ lo.q y.q ≤ lo.q ∧ minQ lo.q y.q ≤ y.q := by unfold minQ; split <;> grind
              have m2 : hi.q ≤ maxQ hi.q y.q ∧ y.q ≤ maxQ hi.q y.q := by unfold maxQ; split <;> grind
              rcases Nat.lt_succ_iff_lt_or_eq.mp ht with h | h
              · have := HBD.out t z h hz
                grind
              · subst h
                rw [HY.out] at hz
                cases hz
                grind)
            have hwj : IntKind.i64.wrap ((j : Int) + 1) = (j : Int) + 1 := by rw [IntKind.wrap_i64]; omega
            have HN := Lib.hid (show ∀ W, In wo [(g2, 25, #[.bool hi2.neg, .string hi2.num, .string hi2.den]), (g1, 25, #[.bool lo2.neg, .string lo2.num, .string lo2.den])] W → LhRel wo g1 g2 L F (k + 1 - F) (.int .i64 ((j : Int) + 1)) W from fun W hW => ⟨j + 1, lo2, hi2, by omega, by simp, ll2, lh2, HNB.out, hW⟩)
            clear ql2 qh2 ll2 lh2 e0 e1 e2 hoe hy HNB HBD HY
            have hK := hJ.alloc 25 #[.bool y.neg, .string y.num, .string y.den]
            go_upto_region 15 with (fail)
            obtain ⟨gx, hgx⟩ : ∃ gx, gx = wr.heap.size := ⟨_, rfl⟩
            rw [← hgx] at hK ⊢
            generalize World.alloc _ _ = W3 at hK ⊢
            clear hgx hJ d0 d1 d2
            refine wp_region_in_tail 6 hK (by kernel_rfl) (by kernel_rfl) ?_
            simp only [List.take_succ_cons, List.take_zero, List.drop_succ_cons, List.drop_zero]
            repeat (first
              | (refine wpSeq_off (by rfl) ?_; try simp only [Act.put, List.setIfInBounds_toArray, List.set_cons_zero, List.set_cons_succ])
              | (refine wpSeq_val (v := ?_) (by rfl) (fun W hS => ?_) ?_
                 rotate_left
                 · (have fx := hS.facts; simp only [factsOf, cellsOf, Nat.zero_add, Nat.reduceAdd] at fx; clear hS; go_simp; first | done | with_reducible rfl)
                 try simp only [Act.put, List.setIfInBounds_toArray, List.set_cons_zero, List.set_cons_succ]))
            refine wpSeq_call (v := .agg #[.bool lo2.neg, .string lo2.num, .string lo2.den]) (by rfl) (fun W hS => ?_) (fun W hS => (MI.out W hS.bel)) ?_
            · (clear hS; go_simp; done)
            try simp only [Act.put, List.setIfInBounds_toArray, List.set_cons_zero, List.set_cons_succ]
            repeat (first
              | (refine wpSeq_off (by rfl) ?_; try simp only [Act.put, List.setIfInBounds_toArray, List.set_cons_zero, List.set_cons_succ])
              | (refine wpSeq_val (v := ?_) (by rfl) (fun W hS => ?_) ?_
                 rotate_left
                 · (have fx := hS.facts; simp only [factsOf, cellsOf, Nat.zero_add, Nat.reduceAdd] at fx; clear hS; go_simp; first | done | with_reducible rfl)
                 try simp only [Act.put, List.setIfInBounds_toArray, List.set_cons_zero, List.set_cons_succ]))
            refine wpSeq_call (v := .agg #[.bool hi2.neg, .string hi2.num, .string hi2.den]) (by rfl) (fun W hS => ?_) (fun W hS => (MA.out W hS.bel)) ?_
            · (clear hS; go_simp; done)
            try simp only [Act.put, List.setIfInBounds_toArray, List.set_cons_zero, List.set_cons_succ]
            repeat (first
              | (refine wpSeq_off (by rfl) ?_; try simp only [Act.put, List.setIfInBounds_toArray, List.set_cons_zero, List.set_cons_succ])
              | (refine wpSeq_val (v := ?_) (by rfl) (fun W hS => ?_) ?_
                 rotate_left
                 · (have fx := hS.facts; simp only [factsOf, cellsOf, Nat.zero_add, Nat.reduceAdd] at fx; clear hS; go_simp; first | done | with_reducible rfl)
                 try simp only [Act.put, List.setIfInBounds_toArray, List.set_cons_zero, List.set_cons_succ]))
            refine wpSeq_nil (fun W hS => ?_)
            have hne : g1 ≠ g2 := fun h => by
              have := hS.apart
              simp only [List.map_cons, List.nodup_cons, List.mem_cons, not_or] at this
              exact this.2.1.1 h.symm
            have fx := hS.facts
            simp only [factsOf, cellsOf, Nat.zero_add, Nat.reduceAdd] at fx
            have hz1 := fun i => hS.free (k := 1) (i := i) rfl
            have hz2 := fun i => hS.free (k := 2) (i := i) rfl
            have HX3 := Lib.hid (HN.out _ (In.tail (In.all3 (a := [_]) (In.all3 (a := [_, _]) hS (.bool lo2.neg) (.string lo2.num) (.string lo2.den)) (.bool hi2.neg) (.string hi2.num) (.string hi2.den))))
            clear hS hK HN MI MA
            go_wp2_with fail
            go_roundw
            case rel => exact HX3.out
            case measure => simp [intOf]; omega
          · obtain rfl : j = k + 1 - F := by omega
            have hji : ¬ ((k + 1 - F : Nat) : Int) < ((k + 1 - F : Nat) : Int) := by omega
            have hkL : k < (L.map Q3.q).length := by rw [List.length_map]; exact hkn
            have hwin : ∀ z ∈ winL (L.map Q3.q) N k, lo.q ≤ z ∧ z ≤ hi.q := fun z hz => by
              obtain ⟨t, hzt⟩ := List.mem_iff_getElem?.1 hz
              have ht := (List.getElem?_eq_some_iff.1 hzt).1
              rw [winL_length hkL, ← HFe.out] at ht
              rw [winL_get (by rw [← HFe.out]; exact ht), ← HFe.out, List.getElem?_map] at hzt
              obtain ⟨y, hy, rfl⟩ := Option.map_eq_some_iff.1 hzt
              exact HBD.out t y ht hy
            obtain ⟨mv, hmv⟩ : ∃ mv, mv = toQ3 (meanV (L.map Q3.q) N k) := ⟨_, rfl⟩
            have hmq : mv.q = meanV (L.map Q3.q) N k := by rw [hmv]; exact toQ3_q _
            have hm1 : lo.q ≤ mv.q := by rw [hmq]; exact meanV_ge hkL h5.1 fun z hz => (hwin z hz).1
            have hm2 : mv.q ≤ hi.q := by rw [hmq]; exact meanV_le hkL h5.1 fun z hz => (hwin z hz).2
            have lmv : mv.le 2009 := by
              rw [hmv]
              refine toQ3_le (meanV_qz (B := 1) (fun z hz => ?_) hkL (by rw [List.length_map]; omega))
              obtain ⟨y, hy, rfl⟩ := List.mem_map.1 hz
              exact (hlo y hy).qz (by decide)
            have hmr : ((meansL (L.map Q3.q) N L.length).map toQ3)[k]? = some mv := by rw [List.getElem?_map, meansL_get hkn, hmv]; rfl
            obtain ⟨bm, om, rfl, hbm, m0, m1, m2⟩ := Rd.quot HRD'.out hmr
            have E := Lib.hid (fun W (hW : Below wo.heap.size wo W) => (⟨Nat.lt_of_lt_of_le hbm (Nat.le_trans HI4.out.bel.size hW.size), (hW.cell (p := ⟨bm, om + k * 3, none⟩) (Nat.lt_of_lt_of_le hbm HI4.out.bel.size)).trans ((HI4.out.bel.cell (p := ⟨bm, om + k * 3, none⟩) hbm).trans m0), (hW.cell (p := ⟨bm, om + k * 3 + 1, none⟩) (Nat.lt_of_lt_of_le hbm HI4.out.bel.size)).trans ((HI4.out.bel.cell (p := ⟨bm, om + k * 3 + 1, none⟩) hbm).trans m1), (hW.cell (p := ⟨bm, om + k * 3 + 2, none⟩) (Nat.lt_of_lt_of_le hbm HI4.out.bel.size)).trans ((HI4.out.bel.cell (p := ⟨bm, om + k * 3 + 2, none⟩) hbm).trans m2)⟩ : And _ (And _ (And _ _))))
            obtain ⟨k1, _, _, p1, C1⟩ := cmpR wo HTo.out mv lo lmv llo
            obtain ⟨k2, _, p2, _, C2⟩ := cmpR wo HTo.out mv hi lmv lhi
            have t1 : ¬ k1 < 0 := fun h => by have := p1.mp h; grind
            have t2 : ¬ k2 > 0 := fun h => by have := p2.mp h; grind
            have hwk : IntKind.i64.wrap ((k : Int) + 1) = (k : Int) + 1 := hw1
            have HN := Lib.hid (show ∀ W, Below wo.heap.size wo W → FmRel w4 L.length (.int .i64 ((k : Int) + 1)) W from fun W hW => ⟨k + 1, hkn, by simp, HI4.out.call hW⟩)
            clear p1 p2 hm1 hm2 hmq hmv lmv hmr m0 m1 m2 hwin HBD hmx
            go_upto_region 17 with (fail)
            refine wp_region_in hJ (by kernel_rfl) (by kernel_rfl) ?_
            repeat (first
              | (refine wpSeq_off (by rfl) ?_; try simp only [Act.put, List.setIfInBounds_toArray, List.set_cons_zero, List.set_cons_succ])
              | (refine wpSeq_val (v := ?_) (by rfl) (fun W hS => ?_) ?_
                 rotate_left
                 · (have fx := hS.facts; simp only [factsOf, cellsOf, Nat.zero_add, Nat.reduceAdd] at fx; have fy0 := E.out W hS.bel; clear hS; go_simp; first | done | with_reducible rfl)
                 try simp only [Act.put, List.setIfInBounds_toArray, List.set_cons_zero, List.set_cons_succ]))
            refine wpSeq_call (v := .int .i64 k1) (by rfl) (fun W hS => ?_) (fun W hS => (C1.out W hS.bel)) ?_
            · (clear hS; go_simp; done)
            try simp only [Act.put, List.setIfInBounds_toArray, List.set_cons_zero, List.set_cons_succ]
            repeat (first
              | (refine wpSeq_off (by rfl) ?_; try simp only [Act.put, List.setIfInBounds_toArray, List.set_cons_zero, List.set_cons_succ])
              | (refine wpSeq_val (v := ?_) (by rfl) (fun W hS => ?_) ?_
                 rotate_left
                 · (have fx := hS.facts; simp only [factsOf, cellsOf, Nat.zero_add, Nat.reduceAdd] at fx; have fy0 := E.out W hS.bel; clear hS; go_simp; first | done | with_reducible rfl)
                 try simp only [Act.put, List.setIfInBounds_toArray, List.set_cons_zero, List.set_cons_succ]))
            refine wpSeq_call (v := .int .i64 k2) (by rfl) (fun W hS => ?_) (fun W hS => (C2.out W hS.bel)) ?_
            · (clear hS; go_simp; done)
            try simp only [Act.put, List.setIfInBounds_toArray, List.set_cons_zero, List.set_cons_succ]
            repeat (first
              | (refine wpSeq_off (by rfl) ?_; try simp only [Act.put, List.setIfInBounds_toArray, List.set_cons_zero, List.set_cons_succ])
              | (refine wpSeq_val (v := ?_) (by rfl) (fun W hS => ?_) ?_
                 rotate_left
                 · (have fx := hS.facts; simp only [factsOf, cellsOf, Nat.zero_add, Nat.reduceAdd] at fx; have fy0 := E.out W hS.bel; clear hS; go_simp; first | done | with_reducible rfl)
                 try simp only [Act.put, List.setIfInBounds_toArray, List.set_cons_zero, List.set_cons_succ]))
            refine wpSeq_nil (fun W hS => ?_)
            have HX3 := Lib.hid (HN.out _ hS.bel)
            clear hS hJ E C1 C2 HN
            go_wp2_with fail
            go_roundw
            case rel => exact HX3.out
            case measure => simp [intOf]; omega
    · obtain rfl : k = L.length := by omega
      have hki : ¬ (L.length : Int) < (L.length : Int) := by omega
      have HBo := Lib.hid (HB24.out.trans (hI.bel.mono HB24.out.size))
      have HBx := Lib.hid (HB4.out.trans (hI.bel.mono HB4.out.size))
      have HTo := Lib.hid (tabs w2 HT2.out HBo.out)
      have hwb := wf_i64 wb
      obtain ⟨z, _, cz, lz, RM⟩ := ratMR wo b hwb
      have hzr : (List.replicate 5 z.q).map toQ3 = List.replicate 5 z := by rw [List.map_replicate, show toQ3 z.q = z from Eq.symm cz]
      have HZR := Lib.hid hzr
      obtain ⟨M, hM⟩ : ∃ M : Nat, min (N : Int) 5 = (M : Int) := ⟨min N 5, by omega⟩
      have hM5 : 1 ≤ M ∧ M ≤ 5 := by omega
      have HMM := Lib.hid (And.intro hM5 h5)
      have hlz : ∀ x ∈ List.replicate 5 z, x.le 1 := fun x hx => by rw [(List.mem_replicate.1 hx).2]; exact lz
      have HLZ := Lib.hid hlz
      replace hI := In.start wo
      clear hzr hlz hwb cz lz hM5 h5 HRD' HRD hkn
      go_wp2_with fail
      refine (RM.out _).mono ?_
      rintro e wn ⟨rfl, hb⟩
      replace hI := (hI.call hb).alloc 25 #[.bool z.neg, .string z.num, .string z.den]
      clear hb RM
      obtain ⟨g5, hg5⟩ : ∃ g, g = wn.heap.size := ⟨_, rfl⟩
      go_wp2_with fail
      rw [← hg5] at hI ⊢
      generalize World.alloc _ _ = W5 at hI ⊢
      clear hg5
      refine (repeat_oneQ W5 z g5 5 (hI.cell (k := 0) (i := 0) rfl rfl) (hI.cell (k := 0) (i := 1) rfl rfl) (hI.cell (k := 0) (i := 2) rfl rfl) (hI.lt (k := 0) rfl) (by decide) (by decide)).mono ?_
      rintro e w6 ⟨rfl, hsl, hb6⟩
      replace hI := (hI.call hb6).tail
      have HS6 := Lib.hid hsl
      clear hb6 hsl
      obtain ⟨g6, hg6⟩ : ∃ g, g = W5.heap.size := ⟨_, rfl⟩
      rw [← hg6] at HS6 ⊢
      clear hg6
      have HM := Lib.hid (mean_ok w6 _ (List.replicate 5 z) (N : Int) (B := 1) HS6.out HLZ.out (by omega) (by have := HMM.out; omega) (by rw [List.length_replicate]; decide) (tabs wo HTo.out hI.bel))
      go_wp2_with fail
      refine HM.out.mono ?_
      rintro e w7 ⟨v7, rfl, hown, hb⟩
      clear HM
      rw [Int.toNat_natCast, List.map_replicate, List.length_replicate, meansL_same HMM.out.2.1] at hown
      have h7 := SlQ.row hown
      rw [HZR.out] at h7
      replace hI := hI.call hb
      have HX7 := Lib.hid h7
      have HS7 := Lib.hid ((HS6.out.below hb).more hb.size)
      clear hown h7 hb HS6
      have HM := Lib.hid (zero_ok w7 _ (List.replicate 5 z) M (B := 1) HS7.out HLZ.out (by omega) (by rw [List.length_replicate]; exact HMM.out.1) (by rw [List.length_replicate]; decide) (tabs wo HTo.out hI.bel))
      go_wp2_with fail
      refine HM.out.mono ?_
      rintro e w8 ⟨v8, rfl, hown, hb⟩
      clear HM
      rw [List.map_replicate, List.take_replicate, List.map_replicate, List.length_replicate, Nat.min_eq_left HMM.out.1.2] at hown
      have hzs : z.q - meanV ((List.replicate M z).map Q3.q) M (M - 1) = 0 := by
        rw [List.map_replicate, meanV_same (by have := HMM.out.1; omega) HMM.out.1.1]
        grind
      rw [hzs] at hown
      have HZ8 := Lib.hid (SlQ.row hown)
      replace hI := hI.call hb
      have HX8 := Lib.hid ((HX7.out.below hb).more hb.size)
      have HS8 := Lib.hid ((HS7.out.below hb).more hb.size)
      clear hown hb HX7 HS7 hzs
      go_wp2_with fail
      refine (equal_same w8 _ _ (List.replicate 5 z) HX8.out HS8.out (by rw [List.length_replicate]; decide)).mono ?_
      rintro e w9 ⟨rfl, hb⟩
      replace hI := hI.call hb
      have HZ9 := Lib.hid ((HZ8.out.below hb).more hb.size)
      clear hb HX8 HS8 HZ8
      go_wp2_with fail
      refine (nonec_any 32 (enters_own Tryd.func32 (by kernel_rfl) rfl) w9 _ _ HZ9.out (by rw [List.length_map, List.length_replicate]; decide) (fun x hx W hW => by
        rw [List.map_replicate] at hx
        obtain rfl := (List.mem_replicate.1 hx).2
        exact (zeroF w9 (tabs wo HTo.out hI.bel) (toQ3 0) (N := 1) (toQ3_le (by rw [qz_zero]; decide)) (toQ3_q 0) (by decide)).out W hW)).mono ?_
      rintro e wa ⟨rfl, hb⟩
      have hfin := HBx.out.trans ((hI.call hb).bel.mono HBx.out.size)
      clear hI hb
      go_wp2
      go_ret
      exact ⟨rfl, hfin⟩
end Go.Proofs.YtnnbnecpcppkdaaDoor.feelMean
