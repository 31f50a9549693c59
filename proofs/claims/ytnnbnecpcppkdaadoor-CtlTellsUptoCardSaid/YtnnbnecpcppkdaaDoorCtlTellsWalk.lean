/- CtlTells: the walk. Conditions: those typed. -/
import Derived.Test.YtnnbnecpcppkdaaDoorCtlX
import Derived.Test.YtnnbnecpcppkdaaDoorTrackArg
import Derived.Test.YtnnbnecpcppkdaaDoorCtlQ
import Derived.Test.YtnnbnecpcppkdaaDoorInvA
namespace Go.Proofs.YtnnbnecpcppkdaaDoor.ctlTells
open Go.RowKit Go.Gy
set_option linter.unusedVariables false
set_option linter.unusedSimpArgs false
theorem wf_i64 {n : Int} (h : wfI .i64 n) : -9223372036854775808 ≤ n ∧ n ≤ 9223372036854775807 := by
  simpa [wfI, Lit.wf, IntKind.min, IntKind.max, IntKind.signed, IntKind.bits] using h
/-- the controller with a track (has) or without -/
def Has (p : Nat) (a' : Ar) (K : List Ky) (W : World) : Prop := ∃ (vt : Value) (K' : List Ky), CtlAt W p a' vt ∧ SlK W W.heap.size vt K' ∧ SameK K K'
def Hasn (p : Nat) (a' : Ar) (W : World) : Prop := CtlAt W p a' (.slice none 0 0)
theorem nilK (w : World) (B : Nat) : SlK w B (.slice none 0 0) [] := ⟨none, 0, 0, rfl, rfl, Nat.le_refl _, fun _ => rfl, ⟨rfl, fun h => by omega⟩, fun k hk => (by cases hk)⟩
theorem Has.below {p : Nat} {a' : Ar} {K : List Ky} {W W' : World} (h : Has p a' K W) (hb : Below W.heap.size W W') : Has p a' K W' := by
  obtain ⟨vt, K', h1, h2, h3⟩ := h
  exact ⟨vt, K', h1.below hb, h2.up hb, h3⟩
theorem Hasn.below {p : Nat} {a' : Ar} {W W' : World} (h : Hasn p a' W) (hb : Below W.heap.size W W') : Hasn p a' W' := CtlAt.below h hb
theorem hasnL {p : Nat} {a' : Ar} : LastsK (Hasn p a') := fun W W' h hb => h.below hb
theorem hasL {p : Nat} {a' : Ar} {K : List Ky} : LastsK (fun W => Hasn p a' W ∨ Has p a' K W) := fun W W' h hb => h.elim (fun h => .inl (h.below hb)) (fun h => .inr (h.below hb))
def TlRel (w : World) (ls : List (Nat × TypeId × Array Value)) (p : Nat) (a' : Ar) (K : List Ky) (i : Value) (wr : World) : Prop := ∃ n : Int, i = .int .i64 n ∧ In w ls wr ∧ ((n = 0 ∧ Hasn p a' wr) ∨ (n = 1 ∧ Hasn p a' wr) ∨ (n = 2 ∧ (Hasn p a' wr ∨ Has p a' K wr)) ∨ n = 3)
/-- what the operations of region 13 yield at the second round -/
def TlF (p : Nat) (a' : Ar) (K : List Ky) (g4 c1 : Int) (vt va : Value) (i : Nat) (u : Value) (W : World) : Prop :=
  match i with
  | 0 => u = .int .i64 1
  | 1 => u = .bool true
  | 2 => u = .bool true
  | 3 => u = .pointer (some ⟨p, 0, none⟩)
  | 4 => u = vt
  | 5 => u = .int .i64 c1 ∧ (c1 = 0 → Has p a' K W)
  | 6 => u = va
  | 7 => u = vt
  | 8 => u = .int .i64 c1
  | 9 => u = .bool false
  | 10 => u = .bool false
  | _ => True
theorem TlF.keep {p : Nat} {a' : Ar} {K : List Ky} {g4 c1 : Int} {vt va : Value} {W W' : World} (h : c1 = 0 → Has p a' K W → Has p a' K W') : ∀ j u, TlF p a' K g4 c1 vt va j u W → TlF p a' K g4 c1 vt va j u W' := by
  intro j u hF
  rcases j with _ | _ | _ | _ | _ | _ | _ | _ | _ | _ | _ | j
  all_goals first | exact hF | skip
  exact ⟨hF.1, fun hc => h hc (hF.2 hc)⟩
set_option maxRecDepth 100000 in
set_option maxHeartbeats 16000000 in
theorem walk (v0 v1 : Value) (tick : Int) (v3 : Value) (w : World) {b0 b1 b3 : Nat} (f0 : ArmArg w v0 b0) (f1 : TrackArg w v1 b1) (wt : wfI .i64 tick) (f3 : StateArg w v3 b3) (hT : TabW w) (hk : b0 + b1 + b3 ≤ 1048576) :
    Calls Tryd.prog 11 #[v0, v1, .int .i64 tick, v3] w fun e w' => e = .returned (.bool true) ∧ Below w.heap.size w w' := by
  obtain ⟨a, rfl, hAt, hle⟩ := f0
  obtain ⟨K, hsk, hkq, hkl⟩ := f1
  obtain ⟨vq, vv, pw, hd, rfl, _, ⟨ql, hql, lql, _⟩, ⟨vl, hvl, _, _⟩⟩ := f3
  have hti := wf_i64 wt
  have HT := Lib.hid hT
  have HTI := Lib.hid hti
  replace hle : a.le 1048576 := hle.more (by omega)
  replace lql : ∀ x ∈ ql, x.le 1048576 := fun x hx => (lql x hx).more (by omega)
  have kle : KyLe K 1048576 := fun k hk2 => ⟨fun x hx => ((hkq k hk2).2.2.1 x hx).more (by omega), by have := (hkq k hk2).2.2.2; omega⟩
  have kti : ∀ k ∈ K, InI k.1 := fun k hk2 => wf_i64 (hkq k hk2).1
  have HFO := Lib.hid (fun W (hW : Below w.heap.size w W) => follows_any W (tabs w hT hW))
  have HCK := Lib.hid (fun W (hW : Below w.heap.size w W) => armCheck_any W (tabs w hT hW) a (hAt.up hW) hle (by decide))
  have HTC := Lib.hid (fun W (hW : Below w.heap.size w W) => trackCheck_any W (tabs w hT hW) a v1 K (hAt.up hW) hle (hsk.up hW) kle kti (by decide))
  have HNW := Lib.hid (fun W (hW : Below w.heap.size w W) => new_ctl W (tabs w hT hW) a (hAt.up hW) hle (by decide))
  have HST := Lib.hid (fun W (hW : Below w.heap.size w W) p a' vt (hS : SameA a a') (hC : CtlAt W p a' vt) hvt => set_ctl W (tabs w hT hW) p a' vt v1 K hC (hS.le hle) (hsk.up hW) kle kti (by omega) (by decide) hvt)
  obtain ⟨tz, htz⟩ : ∃ tz, min 2000 (max (-1) tick) = tz := ⟨_, rfl⟩
  obtain ⟨Av, nv, Cv, rfl, _⟩ := id hvl
  have HWH := Lib.hid (fun W (hW : Below w.heap.size w W) p a' vt K' has (hE : ArmE a 0) (hS : SameA a a') (hC : CtlAt W p a' vt) (hv : SlK W W.heap.size vt K') (hh : (has = true ∧ TrackE a K 0 ∧ SameK K K') ∨ (has = false ∧ K' = [])) => wishes_any W p a a' vt v1 K K' tick tz vq (.slice Av nv Cv) ql pw hd has (N := 1048576) ⟨tabs w hT hW, hAt.up hW, hle, hE, hS, hC, hv, hsk.up hW, kle, hh, by omega, lql, by decide⟩ htz (hql.up hW) ⟨_, _, _, rfl⟩)
  obtain ⟨At, nt, Ct, rfl, hnt, _⟩ := id hsk
  subst hnt
  obtain ⟨Aq, nq, Cq, rfl, hnq, _⟩ := id hql
  subst hnq
  obtain ⟨ar, har⟩ : ∃ ar, ar = a := ⟨_, rfl⟩
  rw [← har] at HCK HTC HNW HST HWH ⊢
  obtain ⟨nm, ⟨px, py⟩, hf, t, va, L⟩ := a
  obtain ⟨⟨A, N, C, hva, _⟩, _⟩ := hAt
  obtain rfl : va = .slice A N C := hva
  have hval : ar.val = .agg #[.string nm, .bool px.neg, .string px.num, .string px.den, .bool py.neg, .string py.num, .string py.den, .bool hf, .bool t.neg, .string t.num, .string t.den, .slice A N C] := by rw [har]; rfl
  rw [hval] at HCK HTC HNW HWH ⊢
  have hI := ((In.start w).alloc 37 #[.string nm, .bool px.neg, .string px.num, .string px.den, .bool py.neg, .string py.num, .string py.den, .bool hf, .bool t.neg, .string t.num, .string t.den, .slice A N C]).alloc 61 #[.slice Aq ql.length Cq, .slice Av nv Cv, .bool pw, .int .i64 hd]
  rw [World.size_alloc] at hI
  clear hsk hkq hkl hql lql hvl hti kle kti har hval htz hk wt hle hT
  go_enter Tryd.func11, Tryd.ntmps11
  go_upto_region 1 with (fail)
  obtain ⟨g4, hg4⟩ : ∃ g, g = w.heap.size := ⟨_, rfl⟩
  rw [← hg4] at hI ⊢
  generalize World.alloc _ _ = W1 at hI ⊢
  have HG4 := Lib.hid hg4
  clear hg4
  go_wp2_with fail
  refine (HFO.out _ hI.bel).mono ?_
  rintro e w2 ⟨rfl, hb⟩
  replace hI := hI.call hb
  clear hb HFO
  have fx := hI.facts
  simp only [factsOf, cellsOf, Nat.zero_add, Nat.reduceAdd] at fx
  go_wp2_with fail
  refine (HCK.out _ hI.bel).mono ?_
  rintro e w3 ⟨c, rfl, hE, hb⟩
  replace hI := hI.call hb
  have HE := Lib.hid hE
  clear hb fx HCK hE
  have fx := hI.facts
  simp only [factsOf, cellsOf, Nat.zero_add, Nat.reduceAdd] at fx
  go_wp2_with fail
  refine (HNW.out _ hI.bel).mono ?_
  rintro e w4 ⟨hb, ⟨c', hc, hE', rfl⟩ | ⟨hE0, p, a', rfl, hok⟩⟩
  · obtain rfl : c' = c := hE'.uniq HE.out
    have hfin := Lib.hid (hI.call hb).bel
    have hc2 : (c' != 0) = true := bne_iff_ne.mpr hc
    clear hE' hI fx hb
    go_wp2
    go_ret
    exact ⟨by simp, hfin.out⟩
  obtain rfl : c = 0 := HE.out.uniq hE0
  have hpw := hok.2.2.1
  have HSA := Lib.hid hok.1
  have hC := hok.at
  have hg4l := hI.lt (k := 0) rfl
  have HP := Lib.hid (show w.heap.size ≤ p ∧ g4 + 1 < p ∧ g4 < p from ⟨by have := hI.bel.size; omega, by omega, by omega⟩)
  replace hI := hI.call hb
  have HTR := Lib.hid (track_ctl w4 p a' (.slice none 0 0) [] hC (nilK _ _) (by decide) (fun k hk => by cases hk))
  have HC := Lib.hid (show Hasn p a' w4 from hC)
  clear hok hb hC fx HNW hpw hg4l
  go_wp2_with fail
  refine HTR.out.mono ?_
  rintro e w5 ⟨v', K', rfl, hown, hsame, hb⟩
  have hl0 := hsame.length
  obtain rfl : K' = [] := List.length_eq_zero_iff.1 hl0
  obtain ⟨A9, c9, rfl, _⟩ := own_rd hown.1
  replace hI := hI.call hb
  have HC := Lib.hid (HC.out.below hb)
  have e9 : ((([] : List Ky).length : Int) != 0) = false := rfl
  have hst := Lib.hid (show TlRel w [(g4 + 1, 61, #[.slice Aq ql.length Cq, .slice Av nv Cv, .bool pw, .int .i64 hd]), (g4, 37, #[.string nm, .bool px.neg, .string px.num, .string px.den, .bool py.neg, .string py.num, .string py.den, .bool hf, .bool t.neg, .string t.num, .string t.den, .slice A N C])] p a' K (.int .i64 0) w5 from ⟨0, rfl, hI, .inl ⟨rfl, HC.out⟩⟩)
  clear hown hsame hl0 hb hI HTR HC
  go_wp2_with fail
  go_loopw [44] (fun i wr => TlRel w [(g4 + 1, 61, #[.slice Aq ql.length Cq, .slice Av nv Cv, .bool pw, .int .i64 hd]), (g4, 37, #[.string nm, .bool px.neg, .string px.num, .string px.den, .bool py.neg, .string py.num, .string py.den, .bool hf, .bool t.neg, .string t.num, .string t.den, .slice A N C])] p a' K i wr) (fun i _ => 3 - (intOf i).toNat)
  case atStart => exact hst.out
  case round =>
    clear hst
    obtain ⟨n, rfl, hI, ⟨rfl, hC⟩ | ⟨rfl, hC⟩ | ⟨rfl, hor⟩ | rfl⟩ := hrel
    · as_aux_lemma =>
      have hIK : InK w [(g4 + 1, 61, #[.slice Aq ql.length Cq, .slice Av nv Cv, .bool pw, .int .i64 hd]), (g4, 37, #[.string nm, .bool px.neg, .string px.num, .string px.den, .bool py.neg, .string py.num, .string py.den, .bool hf, .bool t.neg, .string t.num, .string t.den, .slice A N C])] (Hasn p a') wr := ⟨hI, hC⟩
      clear hI hC
      go_upto_region 13 with (fail)
      refine wp_region_inK hasnL hIK (by kernel_rfl) (by kernel_rfl) ?_
      repeat (first
        | (refine wpSeq_off (by rfl) ?_; try simp only [Act.put, List.setIfInBounds_toArray, List.set_cons_zero, List.set_cons_succ])
        | (refine wpSeq_val (v := ?_) (by rfl) (fun W hS => ?_) ?_
           rotate_left
           · (have fx := hS.facts; simp only [factsOf, cellsOf, Nat.zero_add, Nat.reduceAdd] at fx; clear hS; go_simp; first | done | with_reducible rfl)
           try simp only [Act.put, List.setIfInBounds_toArray, List.set_cons_zero, List.set_cons_succ]))
      refine wpSeq_nil (fun W hS => ?_)
      clear hIK
      have hI := hS.toIn
      have HC := Lib.hid hS.k
      clear hS
      have fx := hI.facts
      simp only [factsOf, cellsOf, Nat.zero_add, Nat.reduceAdd] at fx
      go_wp2_with fail
      refine (HWH.out _ hI.bel p a' _ [] false HE.out HSA.out HC.out (nilK _ _) (.inr ⟨rfl, rfl⟩)).mono ?_
      rintro e w6 ⟨rfl, hb⟩
      have HX := Lib.hid (show TlRel w [(g4 + 1, 61, #[.slice Aq ql.length Cq, .slice Av nv Cv, .bool pw, .int .i64 hd]), (g4, 37, #[.string nm, .bool px.neg, .string px.num, .string px.den, .bool py.neg, .string py.num, .string py.den, .bool hf, .bool t.neg, .string t.num, .string t.den, .slice A N C])] p a' K (.int .i64 1) w6 from ⟨1, rfl, hI.call hb, .inr (.inl ⟨rfl, HC.out.below hb⟩)⟩)
      clear hI fx hb
      go_wp2_with fail
      go_roundw
      case rel => exact HX.out
      case measure => simp [intOf]
    · as_aux_lemma =>
      have HC := Lib.hid hC
      clear hC
      have fx := hI.facts
      simp only [factsOf, cellsOf, Nat.zero_add, Nat.reduceAdd] at fx
      go_wp2_with fail
      refine (HTC.out _ hI.bel).mono ?_
      rintro e w6 ⟨c1, rfl, hTE, hb⟩
      replace hI := hI.call hb
      have HC := Lib.hid (HC.out.below hb)
      have HTE := Lib.hid hTE
      clear hb fx hTE
      go_upto_region 13 with (fail)
      refine wp_region_allF 11 (fun W => In w [(g4 + 1, 61, #[.slice Aq ql.length Cq, .slice Av nv Cv, .bool pw, .int .i64 hd]), (g4, 37, #[.string nm, .bool px.neg, .string px.num, .string px.den, .bool py.neg, .string py.num, .string py.den, .bool hf, .bool t.neg, .string t.num, .string t.den, .slice A N C])] W ∧ (Hasn p a' W ∨ (c1 = 0 ∧ Has p a' K W))) (TlF p a' K g4 c1 (.slice At K.length Ct) (.agg #[.string nm, .bool px.neg, .string px.num, .string px.den, .bool py.neg, .string py.num, .string py.den, .bool hf, .bool t.neg, .string t.num, .string t.den, .slice A N C])) (by kernel_rfl) (by kernel_rfl) ⟨hI.drew, .inl (HC.out.below (Below.refl _ _).drew)⟩ ?_ ?_
      · as_aux_lemma =>
        intro i op' hi ho us W hB hdep
        obtain ⟨hI, hor⟩ := hB
        rcases i with _ | _ | _ | _ | _ | _ | _ | _ | _ | _ | _ | i
        all_goals first | omega | skip
        all_goals (simp only [List.getElem?_cons_succ, List.getElem?_cons_zero, Option.some.injEq] at ho; subst ho)
        · refine StepJ.val (v := .int .i64 1) rfl ?_ ⟨⟨hI, hor⟩, rfl, fun j u h => h⟩
          clear hI hdep hor
          unfold lexA
          simp only [putAll, preI, Nat.reduceLT, Nat.reduceAdd, decide_false, Bool.false_eq_true, if_false]
          go_simp
        · have a0 : us 0 = .int .i64 1 := hdep ⟨0, .data⟩ (by simp) rfl
          refine StepJ.val (v := .bool true) rfl ?_ ⟨⟨hI, hor⟩, rfl, fun j u h => h⟩
          clear hI hdep hor
          unfold lexA
          simp only [putAll, preI, Nat.reduceLT, Nat.reduceAdd, decide_true, decide_false, Bool.false_eq_true, if_true, if_false, Act.put, List.setIfInBounds_toArray, List.set_cons_zero, List.set_cons_succ]
          go_simp
        · have a1 : us 1 = .bool true := hdep ⟨1, .data⟩ (by simp) rfl
          refine StepJ.val (v := .bool true) rfl ?_ ⟨⟨hI, hor⟩, rfl, fun j u h => h⟩
          clear hI hdep hor
          unfold lexA
          simp only [putAll, preI, Nat.reduceLT, Nat.reduceAdd, decide_true, decide_false, Bool.false_eq_true, if_true, if_false, Act.put, List.setIfInBounds_toArray, List.set_cons_zero, List.set_cons_succ]
          go_simp
        · have a2 : us 2 = .bool true := hdep ⟨2, .guard⟩ (by simp) rfl
          refine StepJ.val (v := .pointer (some ⟨p, 0, none⟩)) ?_ ?_ ⟨⟨hI, hor⟩, rfl, fun j u h => h⟩
          · unfold lexA
            simp only [putAll, preI, Nat.reduceLT, Nat.reduceAdd, decide_true, decide_false, Bool.false_eq_true, if_true, if_false, Act.put, List.setIfInBounds_toArray, List.set_cons_zero, List.set_cons_succ]
            rw [a2]
            rfl
          · clear hI hdep hor
            unfold lexA
            simp only [putAll, preI, Nat.reduceLT, Nat.reduceAdd, decide_true, decide_false, Bool.false_eq_true, if_true, if_false, Act.put, List.setIfInBounds_toArray, List.set_cons_zero, List.set_cons_succ]
            go_simp
        · have a2 : us 2 = .bool true := hdep ⟨2, .guard⟩ (by simp) rfl
          refine StepJ.val (v := .slice At K.length Ct) ?_ ?_ ⟨⟨hI, hor⟩, rfl, fun j u h => h⟩
          · unfold lexA
            simp only [putAll, preI, Nat.reduceLT, Nat.reduceAdd, decide_true, decide_false, Bool.false_eq_true, if_true, if_false, Act.put, List.setIfInBounds_toArray, List.set_cons_zero, List.set_cons_succ]
            rw [a2]
            rfl
          · clear hI hdep hor
            unfold lexA
            simp only [putAll, preI, Nat.reduceLT, Nat.reduceAdd, decide_true, decide_false, Bool.false_eq_true, if_true, if_false, Act.put, List.setIfInBounds_toArray, List.set_cons_zero, List.set_cons_succ]
            go_simp
        · have a2 : us 2 = .bool true := hdep ⟨2, .guard⟩ (by simp) rfl
          have a3 : us 3 = .pointer (some ⟨p, 0, none⟩) := hdep ⟨3, .data⟩ (by simp) rfl
          have a4 : us 4 = .slice At K.length Ct := hdep ⟨4, .data⟩ (by simp) rfl
          obtain ⟨vt, hCt, hvt, hbad⟩ : ∃ vt, CtlAt W p a' vt ∧ (∃ A n c, vt = .slice A n c) ∧ (c1 ≠ 0 → vt = .slice none 0 0) := by
            rcases hor with h | ⟨h0, vt, K', h1, ⟨A, n, c, h2, _⟩, _⟩
            · exact ⟨_, h, ⟨_, _, _, rfl⟩, fun _ => rfl⟩
            · exact ⟨vt, h1, ⟨A, n, c, h2⟩, fun h => absurd h0 h⟩
          refine StepJ.call ?_ ?_ ((HST.out W hI.bel p a' vt HSA.out hCt hvt).mono fun e W' hp => ?_)
          · unfold lexA
            simp only [putAll, preI, Nat.reduceLT, Nat.reduceAdd, decide_true, decide_false, Bool.false_eq_true, if_true, if_false, Act.put, List.setIfInBounds_toArray, List.set_cons_zero, List.set_cons_succ]
            rw [a2]
            rfl
          · clear hI hdep hor hCt hvt hbad
            unfold lexA
            simp only [putAll, preI, Nat.reduceLT, Nat.reduceAdd, decide_true, decide_false, Bool.false_eq_true, if_true, if_false, Act.put, List.setIfInBounds_toArray, List.set_cons_zero, List.set_cons_succ]
            go_simp
          · obtain ⟨c, rfl, hc, hbp, hsz, h3⟩ := hp
            obtain rfl : c = c1 := hc.uniq (HTE.out.same HSA.out)
            have hI2 := hI.callB hbp HP.out.1 (fun x hx => by
              rcases List.mem_cons.1 hx with rfl | hx
              · exact HP.out.2.1
              · rcases List.mem_cons.1 hx with rfl | hx
                · exact HP.out.2.2
                · cases hx)
            have hh : c = 0 → Has p a' K W' := fun h0 => by
              rcases h3 with ⟨h4, _⟩ | ⟨_, v', K', h4, h5, h6⟩
              · exact absurd h0 h4
              · exact ⟨v', K', h4, h5.slK, h6⟩
            refine ⟨_, rfl, ⟨hI2, ?_⟩, ⟨rfl, hh⟩, TlF.keep (fun h0 _ => hh h0)⟩
            by_cases h0 : c = 0
            · exact .inr ⟨h0, hh h0⟩
            · left
              rcases h3 with ⟨_, h4⟩ | ⟨h4, _⟩
              · rw [hbad h0] at h4
                exact h4
              · exact absurd h4 h0
        · have a2 : us 2 = .bool true := hdep ⟨2, .guard⟩ (by simp) rfl
          have hfx := hI.facts
          simp only [factsOf, cellsOf, Nat.zero_add, Nat.reduceAdd] at hfx
          refine StepJ.val (v := .agg #[.string nm, .bool px.neg, .string px.num, .string px.den, .bool py.neg, .string py.num, .string py.den, .bool hf, .bool t.neg, .string t.num, .string t.den, .slice A N C]) ?_ ?_ ⟨⟨hI, hor⟩, rfl, fun j u h => h⟩
          · unfold lexA
            simp only [putAll, preI, Nat.reduceLT, Nat.reduceAdd, decide_true, decide_false, Bool.false_eq_true, if_true, if_false, Act.put, List.setIfInBounds_toArray, List.set_cons_zero, List.set_cons_succ]
            rw [a2]
            rfl
          · clear hI hdep hor
            unfold lexA
            simp only [putAll, preI, Nat.reduceLT, Nat.reduceAdd, decide_true, decide_false, Bool.false_eq_true, if_true, if_false, Act.put, List.setIfInBounds_toArray, List.set_cons_zero, List.set_cons_succ]
            go_simp
        · have a2 : us 2 = .bool true := hdep ⟨2, .guard⟩ (by simp) rfl
          refine StepJ.val (v := .slice At K.length Ct) ?_ ?_ ⟨⟨hI, hor⟩, rfl, fun j u h => h⟩
          · unfold lexA
            simp only [putAll, preI, Nat.reduceLT, Nat.reduceAdd, decide_true, decide_false, Bool.false_eq_true, if_true, if_false, Act.put, List.setIfInBounds_toArray, List.set_cons_zero, List.set_cons_succ]
            rw [a2]
            rfl
          · clear hI hdep hor
            unfold lexA
            simp only [putAll, preI, Nat.reduceLT, Nat.reduceAdd, decide_true, decide_false, Bool.false_eq_true, if_true, if_false, Act.put, List.setIfInBounds_toArray, List.set_cons_zero, List.set_cons_succ]
            go_simp
        · have a2 : us 2 = .bool true := hdep ⟨2, .guard⟩ (by simp) rfl
          have a6 : us 6 = .agg #[.string nm, .bool px.neg, .string px.num, .string px.den, .bool py.neg, .string py.num, .string py.den, .bool hf, .bool t.neg, .string t.num, .string t.den, .slice A N C] := hdep ⟨6, .data⟩ (by simp) rfl
          have a7 : us 7 = .slice At K.length Ct := hdep ⟨7, .data⟩ (by simp) rfl
          refine StepJ.call ?_ ?_ ((HTC.out W hI.bel).mono fun e W' hp => ?_)
          · unfold lexA
            simp only [putAll, preI, Nat.reduceLT, Nat.reduceAdd, decide_true, decide_false, Bool.false_eq_true, if_true, if_false, Act.put, List.setIfInBounds_toArray, List.set_cons_zero, List.set_cons_succ]
            rw [a2]
            rfl
          · clear hI hdep hor
            unfold lexA
            simp only [putAll, preI, Nat.reduceLT, Nat.reduceAdd, decide_true, decide_false, Bool.false_eq_true, if_true, if_false, Act.put, List.setIfInBounds_toArray, List.set_cons_zero, List.set_cons_succ]
            go_simp
          · obtain ⟨c, rfl, hc, hb⟩ := hp
            obtain rfl : c = c1 := hc.uniq HTE.out
            exact ⟨_, rfl, ⟨hI.call hb, hor.elim (fun h => .inl (h.below hb)) (fun h => .inr ⟨h.1, h.2.below hb⟩)⟩, rfl, TlF.keep (fun _ h => h.below hb)⟩
        · have a2 : us 2 = .bool true := hdep ⟨2, .guard⟩ (by simp) rfl
          have a5 : us 5 = .int .i64 c1 := (hdep ⟨5, .data⟩ (by simp) rfl : us 5 = .int .i64 c1 ∧ (c1 = 0 → Has p a' K W)).1
          have a8 : us 8 = .int .i64 c1 := hdep ⟨8, .data⟩ (by simp) rfl
          refine StepJ.val (v := .bool false) ?_ ?_ ⟨⟨hI, hor⟩, rfl, fun j u h => h⟩
          · unfold lexA
            simp only [putAll, preI, Nat.reduceLT, Nat.reduceAdd, decide_true, decide_false, Bool.false_eq_true, if_true, if_false, Act.put, List.setIfInBounds_toArray, List.set_cons_zero, List.set_cons_succ]
            rw [a2]
            rfl
          · clear hI hdep hor
            unfold lexA
            simp only [putAll, preI, Nat.reduceLT, Nat.reduceAdd, decide_true, decide_false, Bool.false_eq_true, if_true, if_false, Act.put, List.setIfInBounds_toArray, List.set_cons_zero, List.set_cons_succ]
            go_simp
        · have a2 : us 2 = .bool true := hdep ⟨2, .data⟩ (by simp) rfl
          have a9 : us 9 = .bool false := hdep ⟨9, .data⟩ (by simp) rfl
          refine StepJ.val (v := .bool false) rfl ?_ ⟨⟨hI, hor⟩, rfl, fun j u h => h⟩
          clear hI hdep hor
          unfold lexA
          simp only [putAll, preI, Nat.reduceLT, Nat.reduceAdd, decide_true, decide_false, Bool.false_eq_true, if_true, if_false, Act.put, List.setIfInBounds_toArray, List.set_cons_zero, List.set_cons_succ]
          go_simp
      · intro us W hB hF
        obtain ⟨hI, hor⟩ := hB
        have h10 : us 10 = .bool false := hF 10 (by decide)
        have H5 := Lib.hid (hF 5 (by decide) : us 5 = .int .i64 c1 ∧ (c1 = 0 → Has p a' K W)).2
        have HOR := Lib.hid hor
        unfold lexA
        simp only [putAll, preI, Nat.reduceLT, Nat.reduceAdd, decide_true, decide_false, Bool.false_eq_true, if_true, if_false, Act.put, List.setIfInBounds_toArray, List.set_cons_zero, List.set_cons_succ, List.drop_succ_cons, List.drop_zero]
        rw [h10]
        clear hF h10 hor
        by_cases hc : c1 = 0
        · obtain ⟨vt, K', h1, h2, h3⟩ := H5.out hc
          subst hc
          have HW := Lib.hid (HWH.out W hI.bel p a' vt K' true HE.out HSA.out h1 h2 (.inl ⟨rfl, HTE.out, h3⟩))
          have HHS := Lib.hid (show Has p a' K W from ⟨vt, K', h1, h2, h3⟩)
          clear h1 h2 h3
          have fx := hI.facts
          simp only [factsOf, cellsOf, Nat.zero_add, Nat.reduceAdd] at fx
          go_wp2_with fail
          refine HW.out.mono ?_
          rintro e w7 ⟨rfl, hb⟩
          have HX := Lib.hid (show TlRel w [(g4 + 1, 61, #[.slice Aq ql.length Cq, .slice Av nv Cv, .bool pw, .int .i64 hd]), (g4, 37, #[.string nm, .bool px.neg, .string px.num, .string px.den, .bool py.neg, .string py.num, .string py.den, .bool hf, .bool t.neg, .string t.num, .string t.den, .slice A N C])] p a' K (.int .i64 2) w7 from ⟨2, rfl, hI.call hb, .inr (.inr (.inl ⟨rfl, .inr (HHS.out.below hb)⟩))⟩)
          clear hI fx hb
          go_wp2_with fail
          go_roundw
          case rel => exact HX.out
          case measure => simp [intOf]
        · have hcf : (c1 == 0) = false := beq_eq_false_iff_ne.mpr hc
          have HHN := Lib.hid (show Hasn p a' W from by
            rcases HOR.out with h | ⟨h, _⟩
            · exact h
            · exact absurd h hc)
          have HW := Lib.hid (HWH.out W hI.bel p a' _ [] false HE.out HSA.out HHN.out (nilK _ _) (.inr ⟨rfl, rfl⟩))
          clear hc
          have fx := hI.facts
          simp only [factsOf, cellsOf, Nat.zero_add, Nat.reduceAdd] at fx
          go_wp2_with fail
          refine HW.out.mono ?_
          rintro e w7 ⟨rfl, hb⟩
          have HX := Lib.hid (show TlRel w [(g4 + 1, 61, #[.slice Aq ql.length Cq, .slice Av nv Cv, .bool pw, .int .i64 hd]), (g4, 37, #[.string nm, .bool px.neg, .string px.num, .string px.den, .bool py.neg, .string py.num, .string py.den, .bool hf, .bool t.neg, .string t.num, .string t.den, .slice A N C])] p a' K (.int .i64 2) w7 from ⟨2, rfl, hI.call hb, .inr (.inr (.inl ⟨rfl, .inl (HHN.out.below hb)⟩))⟩)
          clear hI fx hb
          go_wp2_with fail
          go_roundw
          case rel => exact HX.out
          case measure => simp [intOf]
    · as_aux_lemma =>
      have hIK : InK w [(g4 + 1, 61, #[.slice Aq ql.length Cq, .slice Av nv Cv, .bool pw, .int .i64 hd]), (g4, 37, #[.string nm, .bool px.neg, .string px.num, .string px.den, .bool py.neg, .string py.num, .string py.den, .bool hf, .bool t.neg, .string t.num, .string t.den, .slice A N C])] (fun W => Hasn p a' W ∨ Has p a' K W) wr := ⟨hI, hor⟩
      clear hI hor
      go_upto_region 13 with (fail)
      refine wp_region_inK hasL hIK (by kernel_rfl) (by kernel_rfl) ?_
      repeat (first
        | (refine wpSeq_off (by rfl) ?_; try simp only [Act.put, List.setIfInBounds_toArray, List.set_cons_zero, List.set_cons_succ])
        | (refine wpSeq_val (v := ?_) (by rfl) (fun W hS => ?_) ?_
           rotate_left
           · (have fx := hS.facts; simp only [factsOf, cellsOf, Nat.zero_add, Nat.reduceAdd] at fx; clear hS; go_simp; first | done | with_reducible rfl)
           try simp only [Act.put, List.setIfInBounds_toArray, List.set_cons_zero, List.set_cons_succ]))
      refine wpSeq_nil (fun W hS => ?_)
      clear hIK
      have hI := hS.toIn
      obtain ⟨vt, hCt, hvt⟩ : ∃ vt, CtlAt W p a' vt ∧ (∃ A n c, vt = .slice A n c) := by
        rcases hS.k with h | ⟨vt, K', h1, ⟨A, n, c, h2, _⟩, _⟩
        · exact ⟨_, h, _, _, _, rfl⟩
        · exact ⟨vt, h1, A, n, c, h2⟩
      have HCL := Lib.hid (clear_ctl W p a' vt hCt hvt)
      clear hS hCt hvt
      go_wp2_with fail
      refine HCL.out.mono ?_
      rintro e w6 ⟨rfl, hC, hbp, hsz⟩
      have hI := hI.callB hbp HP.out.1 (fun x hx => by
        rcases List.mem_cons.1 hx with rfl | hx
        · exact HP.out.2.1
        · rcases List.mem_cons.1 hx with rfl | hx
          · exact HP.out.2.2
          · cases hx)
      have HW := Lib.hid (HWH.out w6 hI.bel p a' _ [] false HE.out HSA.out hC (nilK _ _) (.inr ⟨rfl, rfl⟩))
      clear hC hbp hsz HCL
      have fx := hI.facts
      simp only [factsOf, cellsOf, Nat.zero_add, Nat.reduceAdd] at fx
      go_wp2_with fail
      refine HW.out.mono ?_
      rintro e w7 ⟨rfl, hb⟩
      have HX := Lib.hid (show TlRel w [(g4 + 1, 61, #[.slice Aq ql.length Cq, .slice Av nv Cv, .bool pw, .int .i64 hd]), (g4, 37, #[.string nm, .bool px.neg, .string px.num, .string px.den, .bool py.neg, .string py.num, .string py.den, .bool hf, .bool t.neg, .string t.num, .string t.den, .slice A N C])] p a' K (.int .i64 3) w7 from ⟨3, rfl, hI.call hb, .inr (.inr (.inr rfl))⟩)
      clear hI fx hb
      go_wp2_with fail
      go_roundw
      case rel => exact HX.out
      case measure => simp [intOf]
    · have hfin := Lib.hid hI.bel
      clear hI
      go_wp2
      go_ret
      exact ⟨rfl, hfin.out⟩
end Go.Proofs.YtnnbnecpcppkdaaDoor.ctlTells
