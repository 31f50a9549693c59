/- stop.Spans. Conditions: those typed. -/
import Derived.Test.YtnnbnecpcppkdaaDoorStopFits
import Derived.Test.YtnnbnecpcppkdaaDoorBrakes
import Derived.Test.YtnnbnecpcppkdaaDoorConfM
namespace Go.Proofs.YtnnbnecpcppkdaaDoor
open Go.RowKit Go.Gy
set_option linter.unusedVariables false
/-- the span of a joint that brakes -/
def SpanAt (M : Nat) (k : Lk) (q v : Q3) (s : P2) : Prop := ∃ n : Int, TicksIs k.brake.q v.q n 0 ∧ s.x.q = minQ q.q (q.q + wayQ k.brake.q v.q n) ∧ s.y.q = maxQ q.q (q.q + wayQ k.brake.q v.q n) ∧ s.can ∧ s.le M
def SpansOK (M : Nat) (L : List (Lk × List P2)) (ql vl : List Q3) (S : List P2) : Prop := S.length ≤ L.length ∧ ∀ (j : Nat) (s : P2) (x : Lk × List P2) (q v : Q3), S[j]? = some s → L[j]? = some x → ql[j]? = some q → vl[j]? = some v → SpanAt M x.1 q v s
theorem SpansOK.snoc {M : Nat} {L : List (Lk × List P2)} {ql vl : List Q3} {S : List P2} {s : P2} {x : Lk × List P2} {q v : Q3} (h : SpansOK M L ql vl S) (hx : L[S.length]? = some x) (hq : ql[S.length]? = some q) (hv : vl[S.length]? = some v) (hs : SpanAt M x.1 q v s) : SpansOK M L ql vl (S ++ [s]) := by
  refine ⟨by have := (List.getElem?_eq_some_iff.1 hx).1; simp; omega, fun j p y q' v' h1 h2 h3 h4 => ?_⟩
  rcases Nat.lt_or_ge j S.length with hj | hj
  · rw [List.getElem?_append_left hj] at h1
    exact h.2 j p y q' v' h1 h2 h3 h4
  · rw [List.getElem?_append_right hj] at h1
    have hj0 : j - S.length = 0 := by
      have := (List.getElem?_eq_some_iff.1 h1).1
      simp at this
      omega
    rw [hj0] at h1
    simp at h1
    subst h1
    rw [show j = S.length by omega] at h2 h3 h4
    rw [hx] at h2
    rw [hq] at h3
    rw [hv] at h4
    cases h2; cases h3; cases h4
    exact hs
def SpansPost (w : World) (M : Nat) (a : Ar) (ql vl : List Q3) (e : Ending) (w' : World) : Prop := ∃ (v : Value) (c : Int), e = .returned (.tuple #[v, .int .i64 c]) ∧ Below w.heap.size w w' ∧
  ((FitsE a ql.length vl.length c ∧ c ≠ 0 ∧ v = .slice none 0 0) ∨
   (FitsE a ql.length vl.length 0 ∧ (∃ (j : Nat) (x : Lk × List P2) (y : Q3), a.L[j]? = some x ∧ vl[j]? = some y ∧ ∃ n e, TicksIs x.1.brake.q y.q n e ∧ e ≠ 0 ∧ c = e) ∧ v = .slice none 0 0) ∨
   (FitsE a ql.length vl.length 0 ∧ c = 0 ∧ ∃ S : List P2, S.length = a.L.length ∧ SpansOK M a.L ql vl S ∧ w'.ownsRow w.heap.size 68 6 v S.length (S.flatMap encP)))
def SpRel (w : World) (M : Nat) (L : List (Lk × List P2)) (ql vl : List Q3) (v i : Value) (wr : World) : Prop := ∃ S : List P2, i = .int .i64 S.length ∧ SpansOK M L ql vl S ∧ wr.ownsRow w.heap.size 68 6 v S.length (S.flatMap encP) ∧ Below w.heap.size w wr
set_option maxRecDepth 100000 in
theorem info_span : (Tryd.prog.info? 68).map (fun i => (i.zero, i.size, i.bytes)) = some (some (.agg #[.bool false, .string { data := #[] }, .string { data := #[] }, .bool false, .string { data := #[] }, .string { data := #[] }]), 6, 80) := by kernel_rfl
set_option maxRecDepth 100000 in
set_option maxHeartbeats 8000000 in
theorem spans_any (w : World) (hT : TabW w) (a : Ar) {N : Nat} (hA : a.At w w.heap.size) (hle : a.le N) (vq vv : Value) (ql vl : List Q3) (hq : SlQ w w.heap.size vq ql) (hv : SlQ w w.heap.size vv vl) (lq : ∀ x ∈ ql, x.le N) (lv : ∀ x ∈ vl, x.le N) (hN : 1 ≤ N ∧ N ≤ 67108864) :
    Calls Tryd.prog 35 #[a.val, vq, vv] w (SpansPost w (8 * N + 200) a ql vl) := by
  obtain ⟨Aq, nq, Cq, rfl, hqn, _, _, hrq⟩ := hq
  obtain ⟨Av, nv, Cv, rfl, hvn, _, _, hrv⟩ := hv
  subst hqn hvn
  have HT := Lib.hid hT
  have HFI := Lib.hid (fun W (hW : Below w.heap.size w W) => fits_any W (tabs w hT hW) a (hA.up hW) hle (by omega) Aq Av ql.length Cq vl.length Cv)
  have HRQ := Lib.hid hrq
  have HRV := Lib.hid hrv
  have HLQ := Lib.hid lq
  have HLV := Lib.hid lv
  have HAt := Lib.hid hA
  obtain ⟨ar, har⟩ : ∃ ar, ar = a := ⟨_, rfl⟩
  rw [← har] at HFI ⊢
  obtain ⟨nm, ⟨px, py⟩, hf, t, va, L⟩ := a
  obtain ⟨⟨A, n9, C, hva, hNL, _, _, hrd⟩, hshp⟩ := hA
  obtain rfl : va = .slice A n9 C := hva
  obtain rfl : L.length = n9 := (Ar.ks_len ⟨nm, ⟨px, py⟩, hf, t, .slice A n9 C, L⟩).symm.trans hNL
  have hval : ar.val = .agg #[.string nm, .bool px.neg, .string px.num, .string px.den, .bool py.neg, .string py.num, .string py.den, .bool hf, .bool t.neg, .string t.num, .string t.den, .slice A L.length C] := by rw [har]; rfl
  have hLL : ar.L = L := by rw [har]
  rw [hval] at HFI ⊢
  have HRD := Lib.hid hrd
  have HSH := Lib.hid (show ∀ x ∈ L, SlP w w.heap.size x.1.shape x.2 from hshp)
  have HKL := Lib.hid (show ∀ x ∈ L, x.1.le N ∧ (∀ y ∈ x.2, y.le N) ∧ x.2.length ≤ N from hle.2.2.2)
  have HKS := Lib.hid (show ∀ i : Nat, (L.map (·.1))[i]? = (L[i]?).map (·.1) from fun i => List.getElem?_map)
  have HP1 := Lib.hid (show ∀ c W, FitsE ar ql.length vl.length c → c ≠ 0 → Below w.heap.size w W → SpansPost w (8 * N + 200) ar ql vl (.returned (.tuple #[.slice none 0 0, .int .i64 c])) W from fun c W h h0 hb => ⟨_, c, rfl, hb, .inl ⟨h, h0, rfl⟩⟩)
  have HP2 := Lib.hid (show ∀ (j : Nat) x y n e W, FitsE ar ql.length vl.length 0 → L[j]? = some x → vl[j]? = some y → TicksIs x.1.brake.q y.q n e → e ≠ 0 → Below w.heap.size w W → SpansPost w (8 * N + 200) ar ql vl (.returned (.tuple #[.slice none 0 0, .int .i64 e])) W from fun j x y n e W h h1 h2 h3 h4 hb => ⟨_, e, rfl, hb, .inr (.inl ⟨h, ⟨j, x, y, by rw [hLL]; exact h1, h2, n, e, h3, h4, rfl⟩, rfl⟩)⟩)
  have HP3 := Lib.hid (show ∀ v S W, FitsE ar ql.length vl.length 0 → S.length = L.length → SpansOK (8 * N + 200) L ql vl S → W.ownsRow w.heap.size 68 6 v S.length (S.flatMap encP) → Below w.heap.size w W → SpansPost w (8 * N + 200) ar ql vl (.returned (.tuple #[v, .int .i64 0])) W from fun v S W h h1 h2 h3 hb => ⟨_, 0, rfl, hb, .inr (.inr ⟨h, rfl, S, by rw [hLL]; exact h1, by rw [hLL]; exact h2, h3⟩)⟩)
  have HFZ := Lib.hid (show FitsE ar ql.length vl.length 0 → ql.length = L.length ∧ vl.length = L.length ∧ L.length ≤ 3 from fun h => by
    have h1 := h.zero
    rw [hLL] at h1
    have h2 := h1.1.zero rfl
    rw [hLL] at h2
    exact ⟨h1.2.1, h1.2.2, h2.2.1⟩)
  have hI := (In.start w).alloc 37 #[.string nm, .bool px.neg, .string px.num, .string px.den, .bool py.neg, .string py.num, .string py.den, .bool hf, .bool t.neg, .string t.num, .string t.den, .slice A L.length C]
  obtain ⟨i0, hi0, hi1⟩ := Option.map_eq_some_iff.1 info_span
  injection hi1 with hz0 hi1
  injection hi1 with hz1 hz2
  clear hrq hrv lq lv hT hval hLL har hrd hshp hNL hle
  go_enter Tryd.func35, Tryd.ntmps35
  go_upto_region 1 with (fail)
  generalize World.alloc _ _ = W1 at hI ⊢
  have fx := hI.facts
  simp only [factsOf, cellsOf, Nat.zero_add, Nat.reduceAdd] at fx
  go_wp2_with fail
  refine (HFI.out _ hI.bel).mono ?_
  rintro e wn ⟨c, rfl, hc, hb⟩
  replace hI := hI.call hb
  clear hb fx HFI
  have fx := hI.facts
  simp only [factsOf, cellsOf, Nat.zero_add, Nat.reduceAdd] at fx
  by_cases h0 : c = 0
  · subst h0
    have HC := Lib.hid hc
    obtain ⟨hq1, hv1, hL3⟩ := HFZ.out hc
    have HQ1 := Lib.hid hq1
    have HV1 := Lib.hid hv1
    have hst := Lib.hid (show SpRel w (8 * N + 200) L ql vl (.slice none 0 0) (.int .i64 0) wn from ⟨[], rfl, ⟨Nat.zero_le _, fun j s x q v h => by simp at h⟩, ⟨rfl, .inl ⟨rfl, rfl⟩⟩, hI.bel⟩)
    clear hc hI hq1 hv1
    go_wp2_with fail
    clear fx
    go_loopw [9, 26] (fun v i wr => SpRel w (8 * N + 200) L ql vl v i wr) (fun _ i _ => L.length - (intOf i).toNat)
    case atStart => exact hst.out
    case round =>
      clear hst
      obtain ⟨S, rfl, hS, hown, hbw⟩ := hrel
      by_cases hin : S.length < L.length
      · obtain ⟨wq, rfl⟩ : ∃ wq, wq = wr := ⟨_, rfl⟩
        have hi1 : (S.length : Int) < (L.length : Int) := by omega
        have hi2 : 0 ≤ (S.length : Int) ∧ (S.length : Int) < (L.length : Int) := by omega
        have hi3 : 0 ≤ (S.length : Int) ∧ (S.length : Int) < (ql.length : Int) := by rw [HQ1.out]; exact hi2
        have hi4 : 0 ≤ (S.length : Int) ∧ (S.length : Int) < (vl.length : Int) := by rw [HV1.out]; exact hi2
        have HBW := Lib.hid hbw
        have HT2 := Lib.hid (tabs w HT.out hbw)
        obtain ⟨⟨⟨klen, klow, khigh, kspeed, kbrake, kshape⟩, pts⟩, ha⟩ : ∃ x, L[S.length]? = some x := ⟨_, List.getElem?_eq_getElem hin⟩
        obtain ⟨q, hq⟩ : ∃ q, ql[S.length]? = some q := ⟨_, List.getElem?_eq_getElem (by rw [HQ1.out]; exact hin)⟩
        obtain ⟨v, hv⟩ : ∃ q, vl[S.length]? = some q := ⟨_, List.getElem?_eq_getElem (by rw [HV1.out]; exact hin)⟩
        obtain ⟨A5, n5, c5, hk5, _⟩ := HSH.out _ (List.mem_of_getElem? ha)
        obtain rfl : kshape = .slice A5 n5 c5 := hk5
        obtain ⟨b9, o, rfl, hbB, hlc⟩ := Rd.lnk HRD.out (i := S.length) (k := ⟨klen, klow, khigh, kspeed, kbrake, .slice A5 n5 c5⟩) (by
          show (L.map (·.1))[S.length]? = _
          rw [HKS.out, ha]; rfl)
        have hlc := hlc.below hbw hbB
        have hbn : b9 < wq.heap.size := Nat.lt_of_lt_of_le hbB hbw.size
        obtain ⟨f0, f1, f2, f3, f4, f5, f6, f7, f8, f9, f10, f11, f12, f13, f14, f15⟩ := hlc
        obtain ⟨bq, oq, rfl, hbq, e0, e1, e2⟩ := Rd.quot HRQ.out hq
        obtain ⟨bv, ov, rfl, hbv, d0, d1, d2⟩ := Rd.quot HRV.out hv
        have EQ := Lib.hid (fun W (hW : Below wq.heap.size wq W) => (⟨Nat.lt_of_lt_of_le hbq (Nat.le_trans hbw.size hW.size), (hW.cell (p := ⟨bq, oq + S.length * 3, none⟩) (Nat.lt_of_lt_of_le hbq hbw.size)).trans ((hbw.cell (p := ⟨bq, oq + S.length * 3, none⟩) hbq).trans e0), (hW.cell (p := ⟨bq, oq + S.length * 3 + 1, none⟩) (Nat.lt_of_lt_of_le hbq hbw.size)).trans ((hbw.cell (p := ⟨bq, oq + S.length * 3 + 1, none⟩) hbq).trans e1), (hW.cell (p := ⟨bq, oq + S.length * 3 + 2, none⟩) (Nat.lt_of_lt_of_le hbq hbw.size)).trans ((hbw.cell (p := ⟨bq, oq + S.length * 3 + 2, none⟩) hbq).trans e2)⟩ : And _ (And _ (And _ _))))
        have EV := Lib.hid (fun W (hW : Below wq.heap.size wq W) => (⟨Nat.lt_of_lt_of_le hbv (Nat.le_trans hbw.size hW.size), (hW.cell (p := ⟨bv, ov + S.length * 3, none⟩) (Nat.lt_of_lt_of_le hbv hbw.size)).trans ((hbw.cell (p := ⟨bv, ov + S.length * 3, none⟩) hbv).trans d0), (hW.cell (p := ⟨bv, ov + S.length * 3 + 1, none⟩) (Nat.lt_of_lt_of_le hbv hbw.size)).trans ((hbw.cell (p := ⟨bv, ov + S.length * 3 + 1, none⟩) hbv).trans d1), (hW.cell (p := ⟨bv, ov + S.length * 3 + 2, none⟩) (Nat.lt_of_lt_of_le hbv hbw.size)).trans ((hbw.cell (p := ⟨bv, ov + S.length * 3 + 2, none⟩) hbv).trans d2)⟩ : And _ (And _ (And _ _))))
        have lb : kbrake.le N := (HKL.out _ (List.mem_of_getElem? ha)).1.2.2.2.2
        have lq := HLQ.out q (List.mem_of_getElem? hq)
        have lv := HLV.out v (List.mem_of_getElem? hv)
        obtain ⟨n, e, z, hTI, hze, hz0, lz, _, WY⟩ := wayR wq HT2.out ⟨klen, klow, khigh, kspeed, kbrake, .slice A5 n5 c5⟩ v lv lb
        have WY : Hid (∀ W, Below wq.heap.size wq W → Calls Tryd.prog 19 #[.agg #[.bool klen.neg, .string klen.num, .string klen.den, .bool klow.neg, .string klow.num, .string klow.den, .bool khigh.neg, .string khigh.num, .string khigh.den, .bool kspeed.neg, .string kspeed.num, .string kspeed.den, .bool kbrake.neg, .string kbrake.num, .string kbrake.den, .slice A5 n5 c5], .agg #[.bool v.neg, .string v.num, .string v.den]] W fun r w' => r = .returned (.tuple #[.agg #[.bool z.neg, .string z.num, .string z.den], .int .i64 e]) ∧ Below W.heap.size W w') := WY
        have hTI : TicksIs kbrake.q v.q n e := hTI
        have hwk : IntKind.i64.wrap ((S.length : Int) + 1) = (S.length : Int) + 1 := by rw [IntKind.wrap_i64]; omega
        have HOWN := Lib.hid hown
        have HSS := Lib.hid hS
        have HA := Lib.hid ha
        have HQ := Lib.hid hq
        have HV := Lib.hid hv
        have HTI := Lib.hid hTI
        have HZ := Lib.hid hz0
        have hI := (In.start wq).alloc 28 #[.bool klen.neg, .string klen.num, .string klen.den, .bool klow.neg, .string klow.num, .string klow.den, .bool khigh.neg, .string khigh.num, .string khigh.den, .bool kspeed.neg, .string kspeed.num, .string kspeed.den, .bool kbrake.neg, .string kbrake.num, .string kbrake.den, .slice A5 n5 c5]
        obtain ⟨g11, hg11⟩ : ∃ g, g = wq.heap.size := ⟨_, rfl⟩
        clear hlc hown hS ha hq hv hTI hz0 hze e0 e1 e2 d0 d1 d2
        go_upto_region 8 with (fail)
        clear f0 f1 f2 f3 f4 f5 f6 f7 f8 f9 f10 f11 f12 f13 f14 f15 hbn hbB
        rw [← hg11] at hI ⊢
        generalize World.alloc _ _ = W2 at hI ⊢
        clear hg11
        go_cut [12, 13] (fun p c wx => ∃ gm, p = .pointer (some ⟨gm, 0, none⟩) ∧ c = .int .i64 e ∧ In wq [(gm, 25, #[.bool z.neg, .string z.num, .string z.den])] wx)
        case first =>
          as_aux_lemma =>
            refine wp_region_in_late 9 [8] _ 25 #[.bool false, .string { data := #[] }, .string { data := #[] }] hI (by kernel_rfl) (by kernel_rfl) rfl ?_
            simp only [List.take_succ_cons, List.take_zero, List.drop_succ_cons, List.drop_zero]
            repeat (first
              | (refine wpSeqL_off (by rfl) ?_; try simp only [Act.put, List.setIfInBounds_toArray, List.set_cons_zero, List.set_cons_succ])
              | (refine wpSeqL_pure (v := ?_) (by rfl) (fun W => ?_) ?_
                 rotate_left
                 · (go_simp; first | done | with_reducible rfl)
                 try simp only [Act.put, List.setIfInBounds_toArray, List.set_cons_zero, List.set_cons_succ])
              | (refine wpSeqL_val (v := ?_) (by rfl) (by rfl) (fun W hS => ?_) ?_
                 rotate_left
                 · (have fx := hS.facts; simp only [factsOf, cellsOf, Nat.zero_add, Nat.reduceAdd] at fx; have fy0 := EV.out W hS.bel; clear hS; go_simp; first | done | with_reducible rfl)
                 try simp only [Act.put, List.setIfInBounds_toArray, List.set_cons_zero, List.set_cons_succ]))
            refine wpSeqL_call (v := .tuple #[.agg #[.bool z.neg, .string z.num, .string z.den], .int .i64 e]) (by rfl) (by rfl) (fun W hS => ?_) (fun W hS => (WY.out W hS.bel)) ?_
            · (clear hS; go_simp; done)
            try simp only [Act.put, List.setIfInBounds_toArray, List.set_cons_zero, List.set_cons_succ]
            repeat (first
              | (refine wpSeqL_off (by rfl) ?_; try simp only [Act.put, List.setIfInBounds_toArray, List.set_cons_zero, List.set_cons_succ])
              | (refine wpSeqL_pure (v := ?_) (by rfl) (fun W => ?_) ?_
                 rotate_left
                 · (go_simp; first | done | with_reducible rfl)
                 try simp only [Act.put, List.setIfInBounds_toArray, List.set_cons_zero, List.set_cons_succ])
              | (refine wpSeqL_val (v := ?_) (by rfl) (by rfl) (fun W hS => ?_) ?_
                 rotate_left
                 · (have fx := hS.facts; simp only [factsOf, cellsOf, Nat.zero_add, Nat.reduceAdd] at fx; clear hS; go_simp; first | done | with_reducible rfl)
                 try simp only [Act.put, List.setIfInBounds_toArray, List.set_cons_zero, List.set_cons_succ]))
            refine wpSeqL_nil ⟨rfl, fun W hS => ?_, fun g W hI => ?_⟩
            · go_simp
            simp only [List.setIfInBounds_toArray, List.set_cons_zero, List.set_cons_succ]
            have hS1 := hI.take (a := [_])
            have fx := hS1.facts
            simp only [factsOf, cellsOf, Nat.zero_add, Nat.reduceAdd] at fx
            have hz := fun i => hS1.free (k := 0) (i := i) rfl
            have HX := Lib.hid ((hI.all3 (a := []) (.bool z.neg) (.string z.num) (.string z.den)).take (a := [_]))
            clear hS1 hI
            go_wp2_with fail
            refine NoPanic.normal ?_
            go_wp2_with fail
            go_meet
            exact ⟨g, rfl, rfl, HX.out⟩
        case rest =>
          clear hI WY
          obtain ⟨gm, rfl, rfl, hI⟩ := hcut
          by_cases he0 : e = 0
          · subst he0
            obtain ⟨hzq, _⟩ := HZ.out rfl
            obtain ⟨z0, q0, _, l0, O0⟩ := ofR wq HT2.out 0
            obtain ⟨h, qh, _, lh, A1⟩ := addR wq HT2.out q z0 lq l0
            have hh : h.q = q.q := by rw [qh, show z0.q = 0 from q0]; grind
            obtain ⟨en, qe, _, le, A2⟩ := addR wq HT2.out h z lh lz
            obtain ⟨mn, qmn, cmn, lmn, MN⟩ := minR wq HT2.out h en lh le
            obtain ⟨mx, qmx, cmx, lmx, MX⟩ := maxR wq HT2.out h en lh le
            rw [hh] at qe qmn qmx
            rw [qe, show z.q = wayQ kbrake.q v.q n from hzq] at qmn qmx
            have HSP := Lib.hid (show SpanAt (8 * N + 200) ⟨klen, klow, khigh, kspeed, kbrake, .slice A5 n5 c5⟩ q v ⟨mn, mx⟩ from ⟨n, HTI.out, qmn, qmx, ⟨cmn, cmx⟩, lmn.more (by omega), lmx.more (by omega)⟩)
            clear hzq q0 qh hh qe qmn qmx cmn cmx lmn lmx lh le l0 lz lq lv lb
            go_upto_region 11 with (fail)
            refine wp_region_in_float 6 _ 25 #[.bool false, .string { data := #[] }, .string { data := #[] }] hI (by kernel_rfl) (by kernel_rfl) rfl ?_
            simp only [List.take_succ_cons, List.take_zero, List.drop_succ_cons, List.drop_zero]
            repeat (first
              | (refine wpSeq_off (by rfl) ?_; try simp only [Act.put, List.setIfInBounds_toArray, List.set_cons_zero, List.set_cons_succ])
              | (refine wpSeq_val (v := ?_) (by rfl) (fun W hS => ?_) ?_
                 rotate_left
                 · (have fx := hS.facts; simp only [factsOf, cellsOf, Nat.zero_add, Nat.reduceAdd] at fx; have fy0 := EQ.out W hS.bel; clear hS; go_simp; first | done | with_reducible rfl)
                 try simp only [Act.put, List.setIfInBounds_toArray, List.set_cons_zero, List.set_cons_succ]))
            refine wpSeq_call (v := .agg #[.bool z0.neg, .string z0.num, .string z0.den]) (by rfl) (fun W hS => ?_) (fun W hS => (O0.out W hS.bel)) ?_
            · (clear hS; go_simp; done)
            try simp only [Act.put, List.setIfInBounds_toArray, List.set_cons_zero, List.set_cons_succ]
            repeat (first
              | (refine wpSeq_off (by rfl) ?_; try simp only [Act.put, List.setIfInBounds_toArray, List.set_cons_zero, List.set_cons_succ])
              | (refine wpSeq_val (v := ?_) (by rfl) (fun W hS => ?_) ?_
                 rotate_left
                 · (have fx := hS.facts; simp only [factsOf, cellsOf, Nat.zero_add, Nat.reduceAdd] at fx; clear hS; go_simp; first | done | with_reducible rfl)
                 try simp only [Act.put, List.setIfInBounds_toArray, List.set_cons_zero, List.set_cons_succ]))
            refine wpSeq_call (v := .agg #[.bool h.neg, .string h.num, .string h.den]) (by rfl) (fun W hS => ?_) (fun W hS => (A1.out W hS.bel)) ?_
            · (clear hS; go_simp; done)
            try simp only [Act.put, List.setIfInBounds_toArray, List.set_cons_zero, List.set_cons_succ]
            repeat (first
              | (refine wpSeq_off (by rfl) ?_; try simp only [Act.put, List.setIfInBounds_toArray, List.set_cons_zero, List.set_cons_succ])
              | (refine wpSeq_val (v := ?_) (by rfl) (fun W hS => ?_) ?_
                 rotate_left
                 · (have fx := hS.facts; simp only [factsOf, cellsOf, Nat.zero_add, Nat.reduceAdd] at fx; clear hS; go_simp; first | done | with_reducible rfl)
                 try simp only [Act.put, List.setIfInBounds_toArray, List.set_cons_zero, List.set_cons_succ]))
            refine wpSeq_nil ⟨rfl, fun W hS => ?_, fun g W hI => ?_⟩
            · go_simp
            simp only [List.setIfInBounds_toArray, List.set_cons_zero, List.set_cons_succ]
            have hS1 := hI.take (a := [_])
            have fx := hS1.facts
            simp only [factsOf, cellsOf, Nat.zero_add, Nat.reduceAdd] at fx
            have hz := fun i => hS1.free (k := 0) (i := i) rfl
            have HX := Lib.hid (hI.all3 (a := []) (.bool h.neg) (.string h.num) (.string h.den))
            clear hS1 hI
            go_upto_region 12 with (fail)
            have hI : In wq (_ :: _ :: _) _ := HX.out
            clear HX fx hz
            generalize World.setCell _ _ _ = W4 at hI ⊢
            have fx := hI.facts
            simp only [factsOf, cellsOf, Nat.zero_add, Nat.reduceAdd] at fx
            go_wp2_with fail
            refine (A2.out _ hI.bel).mono ?_
            rintro e wn ⟨rfl, hb⟩
            replace hI := hI.call hb
            clear hb
            clear fx
            replace hI := hI.alloc 25 #[.bool en.neg, .string en.num, .string en.den]
            obtain ⟨g15, hg15⟩ : ∃ g, g = wn.heap.size := ⟨_, rfl⟩
            go_upto_region 13 with (fail)
            rw [← hg15] at hI ⊢
            generalize World.alloc _ _ = W5 at hI ⊢
            clear hg15
            refine wp_region_in_lateS 8 [0] _ 68 #[.bool mn.neg, .string mn.num, .string mn.den, .bool mx.neg, .string mx.num, .string mx.den] hI (by kernel_rfl) (by kernel_rfl) rfl ?_
            simp only [List.take_succ_cons, List.take_zero, List.drop_succ_cons, List.drop_zero]
            repeat (first
              | (refine wpSeqL_off (by rfl) ?_; try simp only [Act.put, List.setIfInBounds_toArray, List.set_cons_zero, List.set_cons_succ])
              | (refine wpSeqL_pure (v := ?_) (by rfl) (fun W => ?_) ?_
                 rotate_left
                 · (go_simp; first | done | with_reducible rfl)
                 try simp only [Act.put, List.setIfInBounds_toArray, List.set_cons_zero, List.set_cons_succ])
              | (refine wpSeqL_val (v := ?_) (by rfl) (by rfl) (fun W hS => ?_) ?_
                 rotate_left
                 · (have fx := hS.facts; simp only [factsOf, cellsOf, Nat.zero_add, Nat.reduceAdd] at fx; clear hS; go_simp; first | done | with_reducible rfl)
                 try simp only [Act.put, List.setIfInBounds_toArray, List.set_cons_zero, List.set_cons_succ]))
            refine wpSeqL_call (v := .agg #[.bool mn.neg, .string mn.num, .string mn.den]) (by rfl) (by rfl) (fun W hS => ?_) (fun W hS => (MN.out W hS.bel)) ?_
            · (clear hS; go_simp; done)
            try simp only [Act.put, List.setIfInBounds_toArray, List.set_cons_zero, List.set_cons_succ]
            repeat (first
              | (refine wpSeqL_off (by rfl) ?_; try simp only [Act.put, List.setIfInBounds_toArray, List.set_cons_zero, List.set_cons_succ])
              | (refine wpSeqL_pure (v := ?_) (by rfl) (fun W => ?_) ?_
                 rotate_left
                 · (go_simp; first | done | with_reducible rfl)
                 try simp only [Act.put, List.setIfInBounds_toArray, List.set_cons_zero, List.set_cons_succ])
              | (refine wpSeqL_val (v := ?_) (by rfl) (by rfl) (fun W hS => ?_) ?_
                 rotate_left
                 · (have fx := hS.facts; simp only [factsOf, cellsOf, Nat.zero_add, Nat.reduceAdd] at fx; clear hS; go_simp; first | done | with_reducible rfl)
                 try simp only [Act.put, List.setIfInBounds_toArray, List.set_cons_zero, List.set_cons_succ]))
            refine wpSeqL_call (v := .agg #[.bool mx.neg, .string mx.num, .string mx.den]) (by rfl) (by rfl) (fun W hS => ?_) (fun W hS => (MX.out W hS.bel)) ?_
            · (clear hS; go_simp; done)
            try simp only [Act.put, List.setIfInBounds_toArray, List.set_cons_zero, List.set_cons_succ]
            repeat (first
              | (refine wpSeqL_off (by rfl) ?_; try simp only [Act.put, List.setIfInBounds_toArray, List.set_cons_zero, List.set_cons_succ])
              | (refine wpSeqL_pure (v := ?_) (by rfl) (fun W => ?_) ?_
                 rotate_left
                 · (go_simp; first | done | with_reducible rfl)
                 try simp only [Act.put, List.setIfInBounds_toArray, List.set_cons_zero, List.set_cons_succ])
              | (refine wpSeqL_val (v := ?_) (by rfl) (by rfl) (fun W hS => ?_) ?_
                 rotate_left
                 · (have fx := hS.facts; simp only [factsOf, cellsOf, Nat.zero_add, Nat.reduceAdd] at fx; clear hS; go_simp; first | done | with_reducible rfl)
                 try simp only [Act.put, List.setIfInBounds_toArray, List.set_cons_zero, List.set_cons_succ]))
            refine wpSeqL_nil ⟨rfl, fun W hS => ?_, fun g W hI => ?_⟩
            · go_simp
            simp only [List.setIfInBounds_toArray, List.set_cons_zero, List.set_cons_succ]
            have hbase : w.heap.size ≤ W.heap.size := Nat.le_trans HBW.out.size hI.bel.size
            have Ho := Lib.hid (own_below HOWN.out hI.bel (Nat.le_refl _))
            have HBB := Lib.hid (HBW.out.trans (hI.bel.mono HBW.out.size))
            have hmx : S.length + 1 ≤ 3 := by omega
            have Hrs := Lib.hid (show Rd W W.heap.size 6 (some ⟨g, 0, none⟩) 1 [.bool mn.neg, .string mn.num, .string mn.den, .bool mx.neg, .string mx.num, .string mx.den] from ⟨rfl, fun _ => ⟨g, 0, rfl, hI.lt (k := 0) rfl, fun j u hj => by rw [Nat.zero_add]; exact hI.cell (k := 0) rfl hj⟩⟩)
            clear hI
            go_wp2_with (at_builtin; refine wpList_extend rfl (.tmp 52) (.tmp 60) 63 rfl w.heap.size 68 i0 (.agg #[.bool false, .string { data := #[] }, .string { data := #[] }, .bool false, .string { data := #[] }, .string { data := #[] }]) 6 80 Tryd.underlying63 hi0 hz0 hz1 hz2 rfl (by omega) _ S.length _ rfl Ho.out _ 1 1 _ [.bool mn.neg, .string mn.num, .string mn.den, .bool mx.neg, .string mx.num, .string mx.den] rfl (fun h => by cases h) Hrs.out (by simp [Value.oneCell']) (by unfold maxLen; omega) (by omega) hbase ?_; intro v6 w6 hn6 hb6)
            have HX := Lib.hid (show w6.ownsRow w.heap.size 68 6 v6 (S ++ [(⟨mn, mx⟩ : P2)]).length ((S ++ [(⟨mn, mx⟩ : P2)]).flatMap encP) from by simpa [encP, encQ] using hn6)
            have HX2 := Lib.hid (HBB.out.trans hb6)
            clear hn6 hb6
            refine NoPanic.normal ?_
            go_wp2_with fail
            go_roundw
            case rel => exact ⟨S ++ [⟨mn, mx⟩], by simp, SpansOK.snoc HSS.out HA.out HQ.out HV.out HSP.out, HX.out, HX2.out⟩
            case measure => simp [intOf]; omega
          · have h01 : (e == 0) = false := by simpa using he0
            have h02 : (e != 0) = true := by simpa using he0
            have HX := Lib.hid (HP2.out _ _ _ n e wc HC.out HA.out HV.out HTI.out he0 (HBW.out.trans (hI.bel.mono HBW.out.size)))
            clear hI
            go_wp2
            refine bodyPost_ret (results_tmp2 rfl _ _ _) rfl ?_
            exact HX.out
      · have hle : S.length = L.length := by have := hS.1; omega
        have hi1 : ¬ (S.length : Int) < (L.length : Int) := by omega
        have HX := Lib.hid (HP3.out _ S wr HC.out hle hS hown hbw)
        clear hS hown hbw hle
        go_wp2
        refine bodyPost_ret (results_tmp2 rfl _ _ _) rfl ?_
        exact HX.out
  · have h01 : (c == 0) = false := by simpa using h0
    have h02 : (c != 0) = true := by simpa using h0
    have HX := Lib.hid (HP1.out c wn hc h0 hI.bel)
    clear hc hI fx
    go_wp2
    refine bodyPost_ret (results_tmp2 rfl _ _ _) rfl ?_
    exact HX.out
end Go.Proofs.YtnnbnecpcppkdaaDoor
