/- stop.fits. stop.Spans. As Inv, with a property of a result and of those for which its operation waits. slices.Clone at numbers; a number stored into an own row. What gantmake.Arm makes is taken by arm.Check. stop.Brake. Conditions: those typed. -/
import Derived.Test.YtnnbnecpcppkdaaDoorArmChk
import Derived.Test.YtnnbnecpcppkdaaDoorBrakes
import Derived.Test.YtnnbnecpcppkdaaDoorConfX
import Derived.Test.YtnnbnecpcppkdaaDoorInv
import Derived.Test.YtnnbnecpcppkdaaDoorArmMk
namespace Go.Proofs.YtnnbnecpcppkdaaDoor
open Go.RowKit Go.Gy
set_option linter.unusedVariables false
/-- what stop.fits says -/
def FitsE (a : Ar) (n m : Nat) (e : Int) : Prop := ∃ c, ArmE a c ∧ ((c ≠ 0 ∧ e = c) ∨ (c = 0 ∧ (n ≠ a.L.length ∨ m ≠ a.L.length) ∧ e = 1) ∨ (c = 0 ∧ n = a.L.length ∧ m = a.L.length ∧ e = 0))
theorem FitsE.uniq {a : Ar} {n m : Nat} {e e' : Int} (h : FitsE a n m e) (h' : FitsE a n m e') : e = e' := by
  obtain ⟨c, h1, h2⟩ := h
  obtain ⟨c', g1, g2⟩ := h'
  obtain rfl := h1.uniq g1
  omega
theorem FitsE.zero {a : Ar} {n m : Nat} (h : FitsE a n m 0) : ArmE a 0 ∧ n = a.L.length ∧ m = a.L.length := by
  obtain ⟨c, h1, ⟨h2, h3⟩ | ⟨_, _, h3⟩ | ⟨h2, h3, h4, _⟩⟩ := h
  · omega
  · omega
  · subst h2; exact ⟨h1, h3, h4⟩
theorem FitsE.ok {a : Ar} (h : ArmE a 0) : FitsE a a.L.length a.L.length 0 := ⟨0, h, .inr (.inr ⟨rfl, rfl, rfl, rfl⟩)⟩
set_option maxRecDepth 100000 in
set_option maxHeartbeats 8000000 in
theorem fits_any (w : World) (hT : TabW w) (a : Ar) {N : Nat} (hA : a.At w w.heap.size) (hle : a.le N) (hN : 1 ≤ N ∧ N ≤ 68719476736) (A1 A2 : Option Addr) (n1 c1 n2 c2 : Nat) :
    Calls Tryd.prog 74 #[a.val, .slice A1 n1 c1, .slice A2 n2 c2] w fun r w' => ∃ e, r = .returned (.int .i64 e) ∧ FitsE a n1 n2 e ∧ Below w.heap.size w w' := by
  have HCK := Lib.hid (fun W (hW : Below w.heap.size w W) => armCheck_any W (tabs w hT hW) a (hA.up hW) hle hN)
  obtain ⟨ar, har⟩ : ∃ ar, ar = a := ⟨_, rfl⟩
  rw [← har] at HCK ⊢
  obtain ⟨nm, ⟨px, py⟩, hf, t, va, L⟩ := a
  obtain ⟨⟨A9, n9, c9, hva, hNL, _⟩, _⟩ := hA
  obtain rfl : va = .slice A9 n9 c9 := hva
  obtain rfl : L.length = n9 := (Ar.ks_len ⟨nm, ⟨px, py⟩, hf, t, .slice A9 n9 c9, L⟩).symm.trans hNL
  have hval : ar.val = .agg #[.string nm, .bool px.neg, .string px.num, .string px.den, .bool py.neg, .string py.num, .string py.den, .bool hf, .bool t.neg, .string t.num, .string t.den, .slice A9 L.length c9] := by rw [har]; rfl
  have hLL : ar.L.length = L.length := by rw [har]
  rw [hval] at HCK ⊢
  have HE1 := Lib.hid (show ∀ c, ArmE ar c → c ≠ 0 → FitsE ar n1 n2 c from fun c h h0 => ⟨c, h, .inl ⟨h0, rfl⟩⟩)
  have HE2 := Lib.hid (show ArmE ar 0 → (n1 ≠ L.length ∨ n2 ≠ L.length) → FitsE ar n1 n2 1 from fun h h0 => ⟨0, h, .inr (.inl ⟨rfl, by rw [hLL]; exact h0, rfl⟩)⟩)
  have HE3 := Lib.hid (show ArmE ar 0 → n1 = L.length → n2 = L.length → FitsE ar n1 n2 0 from fun h h1 h2 => ⟨0, h, .inr (.inr ⟨rfl, by rw [hLL]; exact h1, by rw [hLL]; exact h2, rfl⟩)⟩)
  have hI := (In.start w).alloc 37 #[.string nm, .bool px.neg, .string px.num, .string px.den, .bool py.neg, .string py.num, .string py.den, .bool hf, .bool t.neg, .string t.num, .string t.den, .slice A9 L.length c9]
  clear hval har hNL hle hT hLL
  go_enter Tryd.func74, Tryd.ntmps74
  go_upto_region 1 with (fail)
  generalize World.alloc _ _ = W1 at hI ⊢
  have fx := hI.facts
  simp only [factsOf, cellsOf, Nat.zero_add, Nat.reduceAdd] at fx
  go_wp2_with fail
  refine (HCK.out _ hI.bel).mono ?_
  rintro e wn ⟨c, rfl, hc, hb⟩
  replace hI := hI.call hb
  clear hb fx HCK
  have fx := hI.facts
  simp only [factsOf, cellsOf, Nat.zero_add, Nat.reduceAdd] at fx
  by_cases h0 : c = 0
  · subst h0
    have HC := Lib.hid hc
    clear hc
    by_cases h1 : n1 = L.length
    · have g1 : ((n1 : Int) != (L.length : Int)) = false := by simp [h1]
      by_cases h2 : n2 = L.length
      · have g2 : ((n2 : Int) != (L.length : Int)) = false := by simp [h2]
        have HX := Lib.hid (HE3.out HC.out h1 h2)
        clear h1 h2
        go_wp2
        go_ret
        exact ⟨0, rfl, HX.out, hI.bel⟩
      · have g2 : ((n2 : Int) != (L.length : Int)) = true := by simpa using (fun h : (n2 : Int) = L.length => h2 (by omega))
        have HX := Lib.hid (HE2.out HC.out (.inr h2))
        clear h1 h2
        go_wp2
        go_ret
        exact ⟨1, rfl, HX.out, hI.bel⟩
    · have g1 : ((n1 : Int) != (L.length : Int)) = true := by simpa using (fun h : (n1 : Int) = L.length => h1 (by omega))
      have HX := Lib.hid (HE2.out HC.out (.inl h1))
      clear h1
      go_wp2
      go_ret
      exact ⟨1, rfl, HX.out, hI.bel⟩
  · have h01 : (c == 0) = false := by simpa using h0
    have h02 : (c != 0) = true := by simpa using h0
    have HX := Lib.hid (HE1.out c hc h0)
    clear hc
    go_wp2
    go_ret
    exact ⟨c, rfl, HX.out, hI.bel⟩
end Go.Proofs.YtnnbnecpcppkdaaDoor
namespace Go.Proofs.YtnnbnecpcppkdaaDoor
open Go.RowKit Go.Gy
set_option linter.unusedVariables false
/-- the span of a joint that brakes -/
def SpanAt (M : Nat) (k : Lk) (q v : Q3) (s : P2) : Prop := ∃ n : Int, TicksIs k.brake.q v.q n 0 ∧ s.x.q = minQ q.q (q.q + wayQ k.brake.q v.q n) ∧ s.y.q = maxQ q.q (q.q + wayQ k.brake.q v.q n) ∧ s.can ∧ s.le M
def SpansOK (M : Nat) (L : List (Lk × List P2)) (ql vl : List Q3) (S : List P2) : Prop := S.length ≤ L.length ∧ ∀ (j : Nat) (s : P2) (x : Lk × List P2) (q v : Q3), S[j]? = some s → L[j]? = some x → ql[j]? = some q → vl[j]? = some v → SpanAt M x.1 q v s
theorem SpansOK.snoc {M : Nat} {L : List (Lk × List P2)} {ql vl : List Q3} {S : List P2} {s : P2} {x : Lk × List P2} {q v : Q3} (h : SpansOK M L ql vl S) (hx : L[S.length]? = some x) (hq : ql[S.length]? = some q) (hv : vl[S.length]? = some v) (hs : SpanAt M x.1 q v s) : SpansOK M L ql vl (S ++ [s]) := by
  refine ⟨by have := (List.getElem?_eq_some_iff.1 hx).1; simp; omega, fun j p y q' v' h1 h2 h3 h4 => ?_⟩
  rcases Nat.lt_or_ge j S.length with hj | hj
  · rw [List.getElem?_append_left hj] at h1
    exact h.2 j p y q' v' h1 h2 h3 h4
  · rw [List.getElem?_append_right hj] at h1
    have hj0 : j - S.length = 0 := by
      have := (List.getElem?_eq_some_iff.1 h1).1
      simp at this
      omega
    rw [hj0] at h1
    simp at h1
    subst h1
    rw [show j = S.length by omega] at h2 h3 h4
    rw [hx] at h2
    rw [hq] at h3
    rw [hv] at h4
    cases h2; cases h3; cases h4
    exact hs
def SpansPost (w : World) (M : Nat) (a : Ar) (ql vl : List Q3) (e : Ending) (w' : World) : Prop := ∃ (v : Value) (c : Int), e = .returned (.tuple #[v, .int .i64 c]) ∧ Below w.heap.size w w' ∧
  ((FitsE a ql.length vl.length c ∧ c ≠ 0 ∧ v = .slice none 0 0) ∨
   (FitsE a ql.length vl.length 0 ∧ (∃ (j : Nat) (x : Lk × List P2) (y : Q3), a.L[j]? = some x ∧ vl[j]? = some y ∧ ∃ n e, TicksIs x.1.brake.q y.q n e ∧ e ≠ 0 ∧ c = e) ∧ v = .slice none 0 0) ∨
   (FitsE a ql.length vl.length 0 ∧ c = 0 ∧ ∃ S : List P2, S.length = a.L.length ∧ SpansOK M a.L ql vl S ∧ w'.ownsRow w.heap.size 68 6 v S.length (S.flatMap encP)))
def SpRel (w : World) (M : Nat) (L : List (Lk × List P2)) (ql vl : List Q3) (v i : Value) (wr : World) : Prop := ∃ S : List P2, i = .int .i64 S.length ∧ SpansOK M L ql vl S ∧ wr.ownsRow w.heap.size 68 6 v S.length (S.flatMap encP) ∧ Below w.heap.size w wr
set_option maxRecDepth 100000 in
theorem info_span : (Tryd.prog.info? 68).map (fun i => (i.zero, i.size, i.bytes)) = some (some (.agg #[.bool false, .string { data := #[] }, .string { data := #[] }, .bool false, .string { data := #[] }, .string { data := #[] }]), 6, 80) := by kernel_rfl
set_option maxRecDepth 100000 in
set_option maxHeartbeats 8000000 in
theorem spans_any (w : World) (hT : TabW w) (a : Ar) {N : Nat} (hA : a.At w w.heap.size) (hle : a.le N) (vq vv : Value) (ql vl : List Q3) (hq : SlQ w w.heap.size vq ql) (hv : SlQ w w.heap.size vv vl) (lq : ∀ x ∈ ql, x.le N) (lv : ∀ x ∈ vl, x.le N) (hN : 1 ≤ N ∧ N ≤ 67108864) :
    Calls Tryd.prog 35 #[a.val, vq, vv] w (SpansPost w (8 * N + 200) a ql vl) := by
  obtain ⟨Aq, nq, Cq, rfl, hqn, _, _, hrq⟩ := hq
  obtain ⟨Av, nv, Cv, rfl, hvn, _, _, hrv⟩ := hv
  subst hqn hvn
  have HT := Lib.hid hT
  have HFI := Lib.hid (fun W (hW : Below w.heap.size w W) => fits_any W (tabs w hT hW) a (hA.up hW) hle (by omega) Aq Av ql.length Cq vl.length Cv)
  have HRQ := Lib.hid hrq
  have HRV := Lib.hid hrv
  have HLQ := Lib.hid lq
  have HLV := Lib.hid lv
  have HAt := Lib.hid hA
  obtain ⟨ar, har⟩ : ∃ ar, ar = a := ⟨_, rfl⟩
  rw [← har] at HFI ⊢
  obtain ⟨nm, ⟨px, py⟩, hf, t, va, L⟩ := a
  obtain ⟨⟨A, n9, C, hva, hNL, _, _, hrd⟩, hshp⟩ := hA
  obtain rfl : va = .slice A n9 C := hva
  obtain rfl : L.length = n9 := (Ar.ks_len ⟨nm, ⟨px, py⟩, hf, t, .slice A n9 C, L⟩).symm.trans hNL
  have hval : ar.val = .agg #[.string nm, .bool px.neg, .string px.num, .string px.den, .bool py.neg, .string py.num, .string py.den, .bool hf, .bool t.neg, .string t.num, .string t.den, .slice A L.length C] := by rw [har]; rfl
  have hLL : ar.L = L := by rw [har]
  rw [hval] at HFI ⊢
  have HRD := Lib.hid hrd
  have HSH := Lib.hid (show ∀ x ∈ L, SlP w w.heap.size x.1.shape x.2 from hshp)
  have HKL := Lib.hid (show ∀ x ∈ L, x.1.le N ∧ (∀ y ∈ x.2, y.le N) ∧ x.2.length ≤ N from hle.2.2.2)
  have HKS := Lib.hid (show ∀ i : Nat, (L.map (·.1))[i]? = (L[i]?).map (·.1) from fun i => List.getElem?_map)
  have HP1 := Lib.hid (show ∀ c W, FitsE ar ql.length vl.length c → c ≠ 0 → Below w.heap.size w W → SpansPost w (8 * N + 200) ar ql vl (.returned (.tuple #[.slice none 0 0, .int .i64 c])) W from fun c W h h0 hb => ⟨_, c, rfl, hb, .inl ⟨h, h0, rfl⟩⟩)
  have HP2 := Lib.hid (show ∀ (j : Nat) x y n e W, FitsE ar ql.length vl.length 0 → L[j]? = some x → vl[j]? = some y → TicksIs x.1.brake.q y.q n e → e ≠ 0 → Below w.heap.size w W → SpansPost w (8 * N + 200) ar ql vl (.returned (.tuple #[.slice none 0 0, .int .i64 e])) W from fun j x y n e W h h1 h2 h3 h4 hb => ⟨_, e, rfl, hb, .inr (.inl ⟨h, ⟨j, x, y, by rw [hLL]; exact h1, h2, n, e, h3, h4, rfl⟩, rfl⟩)⟩)
  have HP3 := Lib.hid (show ∀ v S W, FitsE ar ql.length vl.length 0 → S.length = L.length → SpansOK (8 * N + 200) L ql vl S → W.ownsRow w.heap.size 68 6 v S.length (S.flatMap encP) → Below w.heap.size w W → SpansPost w (8 * N + 200) ar ql vl (.returned (.tuple #[v, .int .i64 0])) W from fun v S W h h1 h2 h3 hb => ⟨_, 0, rfl, hb, .inr (.inr ⟨h, rfl, S, by rw [hLL]; exact h1, by rw [hLL]; exact h2, h3⟩)⟩)
  have HFZ := Lib.hid (show FitsE ar ql.length vl.length 0 → ql.length = L.length ∧ vl.length = L.length ∧ L.length ≤ 3 from fun h => by
    have h1 := h.zero
    rw [hLL] at h1
    have h2 := h1.1.zero rfl
    rw [hLL] at h2
    exact ⟨h1.2.1, h1.2.2, h2.2.1⟩)
  have hI := (In.start w).alloc 37 #[.string nm, .bool px.neg, .string px.num, .string px.den, .bool py.neg, .string py.num, .string py.den, .bool hf, .bool t.neg, .string t.num, .string t.den, .slice A L.length C]
  obtain ⟨i0, hi0, hi1⟩ := Option.map_eq_some_iff.1 info_span
  injection hi1 with hz0 hi1
  injection hi1 with hz1 hz2
  clear hrq hrv lq lv hT hval hLL har hrd hshp hNL hle
  go_enter Tryd.func35, Tryd.ntmps35
  go_upto_region 1 with (fail)
  generalize World.alloc _ _ = W1 at hI ⊢
  have fx := hI.facts
  simp only [factsOf, cellsOf, Nat.zero_add, Nat.reduceAdd] at fx
  go_wp2_with fail
  refine (HFI.out _ hI.bel).mono ?_
  rintro e wn ⟨c, rfl, hc, hb⟩
  replace hI := hI.call hb
  clear hb fx HFI
  have fx := hI.facts
  simp only [factsOf, cellsOf, Nat.zero_add, Nat.reduceAdd] at fx
  by_cases h0 : c = 0
  · subst h0
    have HC := Lib.hid hc
    obtain ⟨hq1, hv1, hL3⟩ := HFZ.out hc
    have HQ1 := Lib.hid hq1
    have HV1 := Lib.hid hv1
    have hst := Lib.hid (show SpRel w (8 * N + 200) L ql vl (.slice none 0 0) (.int .i64 0) wn from ⟨[], rfl, ⟨Nat.zero_le _, fun j s x q v h => by simp at h⟩, ⟨rfl, .inl ⟨rfl, rfl⟩⟩, hI.bel⟩)
    clear hc hI hq1 hv1
    go_wp2_with fail
    clear fx
    go_loopw [9, 26] (fun v i wr => SpRel w (8 * N + 200) L ql vl v i wr) (fun _ i _ => L.length - (intOf i).toNat)
    case atStart => exact hst.out
    case round =>
      clear hst
      obtain ⟨S, rfl, hS, hown, hbw⟩ := hrel
      by_cases hin : S.length < L.length
      · obtain ⟨wq, rfl⟩ : ∃ wq, wq = wr := ⟨_, rfl⟩
        have hi1 : (S.length : Int) < (L.length : Int) := by omega
        have hi2 : 0 ≤ (S.length : Int) ∧ (S.length : Int) < (L.length : Int) := by omega
        have hi3 : 0 ≤ (S.length : Int) ∧ (S.length : Int) < (ql.length : Int) := by rw [HQ1.out]; exact hi2
        have hi4 : 0 ≤ (S.length : Int) ∧ (S.length : Int) < (vl.length : Int) := by rw [HV1.out]; exact hi2
        have HBW := Lib.hid hbw
        have HT2 := Lib.hid (tabs w HT.out hbw)
        obtain ⟨⟨⟨klen, klow, khigh, kspeed, kbrake, kshape⟩, pts⟩, ha⟩ : ∃ x, L[S.length]? = some x := ⟨_, List.getElem?_eq_getElem hin⟩
        obtain ⟨q, hq⟩ : ∃ q, ql[S.length]? = some q := ⟨_, List.getElem?_eq_getElem (by rw [HQ1.out]; exact hin)⟩
        obtain ⟨v, hv⟩ : ∃ q, vl[S.length]? = some q := ⟨_, List.getElem?_eq_getElem (by rw [HV1.out]; exact hin)⟩
        obtain ⟨A5, n5, c5, hk5, _⟩ := HSH.out _ (List.mem_of_getElem? ha)
        obtain rfl : kshape = .slice A5 n5 c5 := hk5
        obtain ⟨b9, o, rfl, hbB, hlc⟩ := Rd.lnk HRD.out (i := S.length) (k := ⟨klen, klow, khigh, kspeed, kbrake, .slice A5 n5 c5⟩) (by
          show (L.map (·.1))[S.length]? = _
          rw [HKS.out, ha]; rfl)
        have hlc := hlc.below hbw hbB
        have hbn : b9 < wq.heap.size := Nat.lt_of_lt_of_le hbB hbw.size
        obtain ⟨f0, f1, f2, f3, f4, f5, f6, f7, f8, f9, f10, f11, f12, f13, f14, f15⟩ := hlc
        obtain ⟨bq, oq, rfl, hbq, e0, e1, e2⟩ := Rd.quot HRQ.out hq
        obtain ⟨bv, ov, rfl, hbv, d0, d1, d2⟩ := Rd.quot HRV.out hv
        have EQ := Lib.hid (fun W (hW : Below wq.heap.size wq W) => (⟨Nat.lt_of_lt_of_le hbq (Nat.le_trans hbw.size hW.size), (hW.cell (p := ⟨bq, oq + S.length * 3, none⟩) (Nat.lt_of_lt_of_le hbq hbw.size)).trans ((hbw.cell (p := ⟨bq, oq + S.length * 3, none⟩) hbq).trans e0), (hW.cell (p := ⟨bq, oq + S.length * 3 + 1, none⟩) (Nat.lt_of_lt_of_le hbq hbw.size)).trans ((hbw.cell (p := ⟨bq, oq + S.length * 3 + 1, none⟩) hbq).trans e1), (hW.cell (p := ⟨bq, oq + S.length * 3 + 2, none⟩) (Nat.lt_of_lt_of_le hbq hbw.size)).trans ((hbw.cell (p := ⟨bq, oq + S.length * 3 + 2, none⟩) hbq).trans e2)⟩ : And _ (And _ (And _ _))))
        have EV := Lib.hid (fun W (hW : Below wq.heap.size wq W) => (⟨Nat.lt_of_lt_of_le hbv (Nat.le_trans hbw.size hW.size), (hW.cell (p := ⟨bv, ov + S.length * 3, none⟩) (Nat.lt_of_lt_of_le hbv hbw.size)).trans ((hbw.cell (p := ⟨bv, ov + S.length * 3, none⟩) hbv).trans d0), (hW.cell (p := ⟨bv, ov + S.length * 3 + 1, none⟩) (Nat.lt_of_lt_of_le hbv hbw.size)).trans ((hbw.cell (p := ⟨bv, ov + S.length * 3 + 1, none⟩) hbv).trans d1), (hW.cell (p := ⟨bv, ov + S.length * 3 + 2, none⟩) (Nat.lt_of_lt_of_le hbv hbw.size)).trans ((hbw.cell (p := ⟨bv, ov + S.length * 3 + 2, none⟩) hbv).trans d2)⟩ : And _ (And _ (And _ _))))
        have lb : kbrake.le N := (HKL.out _ (List.mem_of_getElem? ha)).1.2.2.2.2
        have lq := HLQ.out q (List.mem_of_getElem? hq)
        have lv := HLV.out v (List.mem_of_getElem? hv)
        obtain ⟨n, e, z, hTI, hze, hz0, lz, _, WY⟩ := wayR wq HT2.out ⟨klen, klow, khigh, kspeed, kbrake, .slice A5 n5 c5⟩ v lv lb
        have WY : Hid (∀ W, Below wq.heap.size wq W → Calls Tryd.prog 19 #[.agg #[.bool klen.neg, .string klen.num, .string klen.den, .bool klow.neg, .string klow.num, .string klow.den, .bool khigh.neg, .string khigh.num, .string khigh.den, .bool kspeed.neg, .string kspeed.num, .string kspeed.den, .bool kbrake.neg, .string kbrake.num, .string kbrake.den, .slice A5 n5 c5], .agg #[.bool v.neg, .string v.num, .string v.den]] W fun r w' => r = .returned (.tuple #[.agg #[.bool z.neg, .string z.num, .string z.den], .int .i64 e]) ∧ Below W.heap.size W w') := WY
        have hTI : TicksIs kbrake.q v.q n e := hTI
        have hwk : IntKind.i64.wrap ((S.length : Int) + 1) = (S.length : Int) + 1 := by rw [IntKind.wrap_i64]; omega
        have HOWN := Lib.hid hown
        have HSS := Lib.hid hS
        have HA := Lib.hid ha
        have HQ := Lib.hid hq
        have HV := Lib.hid hv
        have HTI := Lib.hid hTI
        have HZ := Lib.hid hz0
        have hI := (In.start wq).alloc 28 #[.bool klen.neg, .string klen.num, .string klen.den, .bool klow.neg, .string klow.num, .string klow.den, .bool khigh.neg, .string khigh.num, .string khigh.den, .bool kspeed.neg, .string kspeed.num, .string kspeed.den, .bool kbrake.neg, .string kbrake.num, .string kbrake.den, .slice A5 n5 c5]
        obtain ⟨g11, hg11⟩ : ∃ g, g = wq.heap.size := ⟨_, rfl⟩
        clear hlc hown hS ha hq hv hTI hz0 hze e0 e1 e2 d0 d1 d2
        go_upto_region 8 with (fail)
        clear f0 f1 f2 f3 f4 f5 f6 f7 f8 f9 f10 f11 f12 f13 f14 f15 hbn hbB
        rw [← hg11] at hI ⊢
        generalize World.alloc _ _ = W2 at hI ⊢
        clear hg11
        go_cut [12, 13] (fun p c wx => ∃ gm, p = .pointer (some ⟨gm, 0, none⟩) ∧ c = .int .i64 e ∧ In wq [(gm, 25, #[.bool z.neg, .string z.num, .string z.den])] wx)
        case first =>
          as_aux_lemma =>
            refine wp_region_in_late 9 [8] _ 25 #[.bool false, .string { data := #[] }, .string { data := #[] }] hI (by kernel_rfl) (by kernel_rfl) rfl ?_
            simp only [List.take_succ_cons, List.take_zero, List.drop_succ_cons, List.drop_zero]
            repeat (first
              | (refine wpSeqL_off (by rfl) ?_; try simp only [Act.put, List.setIfInBounds_toArray, List.set_cons_zero, List.set_cons_succ])
              | (refine wpSeqL_pure (v := ?_) (by rfl) (fun W => ?_) ?_
                 rotate_left
                 · (go_simp; first | done | with_reducible rfl)
                 try simp only [Act.put, List.setIfInBounds_toArray, List.set_cons_zero, List.set_cons_succ])
              | (refine wpSeqL_val (v := ?_) (by rfl) (by rfl) (fun W hS => ?_) ?_
                 rotate_left
                 · (have fx := hS.facts; simp only [factsOf, cellsOf, Nat.zero_add, Nat.reduceAdd] at fx; have fy0 := EV.out W hS.bel; clear hS; go_simp; first | done | with_reducible rfl)
                 try simp only [Act.put, List.setIfInBounds_toArray, List.set_cons_zero, List.set_cons_succ]))
            refine wpSeqL_call (v := .tuple #[.agg #[.bool z.neg, .string z.num, .string z.den], .int .i64 e]) (by rfl) (by rfl) (fun W hS => ?_) (fun W hS => (WY.out W hS.bel)) ?_
            · (clear hS; go_simp; done)
            try simp only [Act.put, List.setIfInBounds_toArray, List.set_cons_zero, List.set_cons_succ]
            repeat (first
              | (refine wpSeqL_off (by rfl) ?_; try simp only [Act.put, List.setIfInBounds_toArray, List.set_cons_zero, List.set_cons_succ])
              | (refine wpSeqL_pure (v := ?_) (by rfl) (fun W => ?_) ?_
                 rotate_left
                 · (go_simp; first | done | with_reducible rfl)
                 try simp only [Act.put, List.setIfInBounds_toArray, List.set_cons_zero, List.set_cons_succ])
              | (refine wpSeqL_val (v := ?_) (by rfl) (by rfl) (fun W hS => ?_) ?_
                 rotate_left
                 · (have fx := hS.facts; simp only [factsOf, cellsOf, Nat.zero_add, Nat.reduceAdd] at fx; clear hS; go_simp; first | done | with_reducible rfl)
                 try simp only [Act.put, List.setIfInBounds_toArray, List.set_cons_zero, List.set_cons_succ]))
            refine wpSeqL_nil ⟨rfl, fun W hS => ?_, fun g W hI => ?_⟩
            · go_simp
            simp only [List.setIfInBounds_toArray, List.set_cons_zero, List.set_cons_succ]
            have hS1 := hI.take (a := [_])
            have fx := hS1.facts
            simp only [factsOf, cellsOf, Nat.zero_add, Nat.reduceAdd] at fx
            have hz := fun i => hS1.free (k := 0) (i := i) rfl
            have HX := Lib.hid ((hI.all3 (a := []) (.bool z.neg) (.string z.num) (.string z.den)).take (a := [_]))
            clear hS1 hI
            go_wp2_with fail
            refine NoPanic.normal ?_
            go_wp2_with fail
            go_meet
            exact ⟨g, rfl, rfl, HX.out⟩
        case rest =>
          clear hI WY
          obtain ⟨gm, rfl, rfl, hI⟩ := hcut
          by_cases he0 : e = 0
          · subst he0
            obtain ⟨hzq, _⟩ := HZ.out rfl
            obtain ⟨z0, q0, _, l0, O0⟩ := ofR wq HT2.out 0
            obtain ⟨h, qh, _, lh, A1⟩ := addR wq HT2.out q z0 lq l0
            have hh : h.q = q.q := by rw [qh, show z0.q = 0 from q0]; grind
            obtain ⟨en, qe, _, le, A2⟩ := addR wq HT2.out h z lh lz
            obtain ⟨mn, qmn, cmn, lmn, MN⟩ := minR wq HT2.out h en lh le
            obtain ⟨mx, qmx, cmx, lmx, MX⟩ := maxR wq HT2.out h en lh le
            rw [hh] at qe qmn qmx
            rw [qe, show z.q = wayQ kbrake.q v.q n from hzq] at qmn qmx
            have HSP := Lib.hid (show SpanAt (8 * N + 200) ⟨klen, klow, khigh, kspeed, kbrake, .slice A5 n5 c5⟩ q v ⟨mn, mx⟩ from ⟨n, HTI.out, qmn, qmx, ⟨cmn, cmx⟩, lmn.more (by omega), lmx.more (by omega)⟩)
            clear hzq q0 qh hh qe qmn qmx cmn cmx lmn lmx lh le l0 lz lq lv lb
            go_upto_region 11 with (fail)
            refine wp_region_in_float 6 _ 25 #[.bool false, .string { data := #[] }, .string { data := #[] }] hI (by kernel_rfl) (by kernel_rfl) rfl ?_
            simp only [List.take_succ_cons, List.take_zero, List.drop_succ_cons, List.drop_zero]
            repeat (first
              | (refine wpSeq_off (by rfl) ?_; try simp only [Act.put, List.setIfInBounds_toArray, List.set_cons_zero, List.set_cons_succ])
              | (refine wpSeq_val (v := ?_) (by rfl) (fun W hS => ?_) ?_
                 rotate_left
                 · (have fx := hS.facts; simp only [factsOf, cellsOf, Nat.zero_add, Nat.reduceAdd] at fx; have fy0 := EQ.out W hS.bel; clear hS; go_simp; first | done | with_reducible rfl)
                 try simp only [Act.put, List.setIfInBounds_toArray, List.set_cons_zero, List.set_cons_succ]))
            refine wpSeq_call (v := .agg #[.bool z0.neg, .string z0.num, .string z0.den]) (by rfl) (fun W hS => ?_) (fun W hS => (O0.out W hS.bel)) ?_
            · (clear hS; go_simp; done)
            try simp only [Act.put, List.setIfInBounds_toArray, List.set_cons_zero, List.set_cons_succ]
            repeat (first
              | (refine wpSeq_off (by rfl) ?_; try simp only [Act.put, List.setIfInBounds_toArray, List.set_cons_zero, List.set_cons_succ])
              | (refine wpSeq_val (v := ?_) (by rfl) (fun W hS => ?_) ?_
                 rotate_left
                 · (have fx := hS.facts; simp only [factsOf, cellsOf, Nat.zero_add, Nat.reduceAdd] at fx; clear hS; go_simp; first | done | with_reducible rfl)
                 try simp only [Act.put, List.setIfInBounds_toArray, List.set_cons_zero, List.set_cons_succ]))
            refine wpSeq_call (v := .agg #[.bool h.neg, .string h.num, .string h.den]) (by rfl) (fun W hS => ?_) (fun W hS => (A1.out W hS.bel)) ?_
            · (clear hS; go_simp; done)
            try simp only [Act.put, List.setIfInBounds_toArray, List.set_cons_zero, List.set_cons_succ]
            repeat (first
              | (refine wpSeq_off (by rfl) ?_; try simp only [Act.put, List.setIfInBounds_toArray, List.set_cons_zero, List.set_cons_succ])
              | (refine wpSeq_val (v := ?_) (by rfl) (fun W hS => ?_) ?_
                 rotate_left
                 · (have fx := hS.facts; simp only [factsOf, cellsOf, Nat.zero_add, Nat.reduceAdd] at fx; clear hS; go_simp; first | done | with_reducible rfl)
                 try simp only [Act.put, List.setIfInBounds_toArray, List.set_cons_zero, List.set_cons_succ]))
            refine wpSeq_nil ⟨rfl, fun W hS => ?_, fun g W hI => ?_⟩
            · go_simp
            simp only [List.setIfInBounds_toArray, List.set_cons_zero, List.set_cons_succ]
            have hS1 := hI.take (a := [_])
            have fx := hS1.facts
            simp only [factsOf, cellsOf, Nat.zero_add, Nat.reduceAdd] at fx
            have hz := fun i => hS1.free (k := 0) (i := i) rfl
            have HX := Lib.hid (hI.all3 (a := []) (.bool h.neg) (.string h.num) (.string h.den))
            clear hS1 hI
            go_upto_region 12 with (fail)
            have hI : In wq (_ :: _ :: _) _ := HX.out
            clear HX fx hz
            generalize World.setCell _ _ _ = W4 at hI ⊢
            have fx := hI.facts
            simp only [factsOf, cellsOf, Nat.zero_add, Nat.reduceAdd] at fx
            go_wp2_with fail
            refine (A2.out _ hI.bel).mono ?_
            rintro e wn ⟨rfl, hb⟩
            replace hI := hI.call hb
            clear hb
            clear fx
            replace hI := hI.alloc 25 #[.bool en.neg, .string en.num, .string en.den]
            obtain ⟨g15, hg15⟩ : ∃ g, g = wn.heap.size := ⟨_, rfl⟩
            go_upto_region 13 with (fail)
            rw [← hg15] at hI ⊢
            generalize World.alloc _ _ = W5 at hI ⊢
            clear hg15
            refine wp_region_in_lateS 8 [0] _ 68 #[.bool mn.neg, .string mn.num, .string mn.den, .bool mx.neg, .string mx.num, .string mx.den] hI (by kernel_rfl) (by kernel_rfl) rfl ?_
            simp only [List.take_succ_cons, List.take_zero, List.drop_succ_cons, List.drop_zero]
            repeat (first
              | (refine wpSeqL_off (by rfl) ?_; try simp only [Act.put, List.setIfInBounds_toArray, List.set_cons_zero, List.set_cons_succ])
              | (refine wpSeqL_pure (v := ?_) (by rfl) (fun W => ?_) ?_
                 rotate_left
                 · (go_simp; first | done | with_reducible rfl)
                 try simp only [Act.put, List.setIfInBounds_toArray, List.set_cons_zero, List.set_cons_succ])
              | (refine wpSeqL_val (v := ?_) (by rfl) (by rfl) (fun W hS => ?_) ?_
                 rotate_left
                 · (have fx := hS.facts; simp only [factsOf, cellsOf, Nat.zero_add, Nat.reduceAdd] at fx; clear hS; go_simp; first | done | with_reducible rfl)
                 try simp only [Act.put, List.setIfInBounds_toArray, List.set_cons_zero, List.set_cons_succ]))
            refine wpSeqL_call (v := .agg #[.bool mn.neg, .string mn.num, .string mn.den]) (by rfl) (by rfl) (fun W hS => ?_) (fun W hS => (MN.out W hS.bel)) ?_
            · (clear hS; go_simp; done)
            try simp only [Act.put, List.setIfInBounds_toArray, List.set_cons_zero, List.set_cons_succ]
            repeat (first
              | (refine wpSeqL_off (by rfl) ?_; try simp only [Act.put, List.setIfInBounds_toArray, List.set_cons_zero, List.set_cons_succ])
              | (refine wpSeqL_pure (v := ?_) (by rfl) (fun W => ?_) ?_
                 rotate_left
                 · (go_simp; first | done | with_reducible rfl)
                 try simp only [Act.put, List.setIfInBounds_toArray, List.set_cons_zero, List.set_cons_succ])
              | (refine wpSeqL_val (v := ?_) (by rfl) (by rfl) (fun W hS => ?_) ?_
                 rotate_left
                 · (have fx := hS.facts; simp only [factsOf, cellsOf, Nat.zero_add, Nat.reduceAdd] at fx; clear hS; go_simp; first | done | with_reducible rfl)
                 try simp only [Act.put, List.setIfInBounds_toArray, List.set_cons_zero, List.set_cons_succ]))
            refine wpSeqL_call (v := .agg #[.bool mx.neg, .string mx.num, .string mx.den]) (by rfl) (by rfl) (fun W hS => ?_) (fun W hS => (MX.out W hS.bel)) ?_
            · (clear hS; go_simp; done)
            try simp only [Act.put, List.setIfInBounds_toArray, List.set_cons_zero, List.set_cons_succ]
            repeat (first
              | (refine wpSeqL_off (by rfl) ?_; try simp only [Act.put, List.setIfInBounds_toArray, List.set_cons_zero, List.set_cons_succ])
              | (refine wpSeqL_pure (v := ?_) (by rfl) (fun W => ?_) ?_
                 rotate_left
                 · (go_simp; first | done | with_reducible rfl)
                 try simp only [Act.put, List.setIfInBounds_toArray, List.set_cons_zero, List.set_cons_succ])
              | (refine wpSeqL_val (v := ?_) (by rfl) (by rfl) (fun W hS => ?_) ?_
                 rotate_left
                 · (have fx := hS.facts; simp only [factsOf, cellsOf, Nat.zero_add, Nat.reduceAdd] at fx; clear hS; go_simp; first | done | with_reducible rfl)
                 try simp only [Act.put, List.setIfInBounds_toArray, List.set_cons_zero, List.set_cons_succ]))
            refine wpSeqL_nil ⟨rfl, fun W hS => ?_, fun g W hI => ?_⟩
            · go_simp
            simp only [List.setIfInBounds_toArray, List.set_cons_zero, List.set_cons_succ]
            have hbase : w.heap.size ≤ W.heap.size := Nat.le_trans HBW.out.size hI.bel.size
            have Ho := Lib.hid (own_below HOWN.out hI.bel (Nat.le_refl _))
            have HBB := Lib.hid (HBW.out.trans (hI.bel.mono HBW.out.size))
            have hmx : S.length + 1 ≤ 3 := by omega
            have Hrs := Lib.hid (show Rd W W.heap.size 6 (some ⟨g, 0, none⟩) 1 [.bool mn.neg, .string mn.num, .string mn.den, .bool mx.neg, .string mx.num, .string mx.den] from ⟨rfl, fun _ => ⟨g, 0, rfl, hI.lt (k := 0) rfl, fun j u hj => by rw [Nat.zero_add]; exact hI.cell (k := 0) rfl hj⟩⟩)
            clear hI
            go_wp2_with (at_builtin; refine wpList_extend rfl (.tmp 52) (.tmp 60) 63 rfl w.heap.size 68 i0 (.agg #[.bool false, .string { data := #[] }, .string { data := #[] }, .bool false, .string { data := #[] }, .string { data := #[] }]) 6 80 Tryd.underlying63 hi0 hz0 hz1 hz2 rfl (by omega) _ S.length _ rfl Ho.out _ 1 1 _ [.bool mn.neg, .string mn.num, .string mn.den, .bool mx.neg, .string mx.num, .string mx.den] rfl (fun h => by cases h) Hrs.out (by simp [Value.oneCell']) (by unfold maxLen; omega) (by omega) hbase ?_; intro v6 w6 hn6 hb6)
            have HX := Lib.hid (show w6.ownsRow w.heap.size 68 6 v6 (S ++ [(⟨mn, mx⟩ : P2)]).length ((S ++ [(⟨mn, mx⟩ : P2)]).flatMap encP) from by simpa [encP, encQ] using hn6)
            have HX2 := Lib.hid (HBB.out.trans hb6)
            clear hn6 hb6
            refine NoPanic.normal ?_
            go_wp2_with fail
            go_roundw
            case rel => exact ⟨S ++ [⟨mn, mx⟩], by simp, SpansOK.snoc HSS.out HA.out HQ.out HV.out HSP.out, HX.out, HX2.out⟩
            case measure => simp [intOf]; omega
          · have h01 : (e == 0) = false := by simpa using he0
            have h02 : (e != 0) = true := by simpa using he0
            have HX := Lib.hid (HP2.out _ _ _ n e wc HC.out HA.out HV.out HTI.out he0 (HBW.out.trans (hI.bel.mono HBW.out.size)))
            clear hI
            go_wp2
            refine bodyPost_ret (results_tmp2 rfl _ _ _) rfl ?_
            exact HX.out
      · have hle : S.length = L.length := by have := hS.1; omega
        have hi1 : ¬ (S.length : Int) < (L.length : Int) := by omega
        have HX := Lib.hid (HP3.out _ S wr HC.out hle hS hown hbw)
        clear hS hown hbw hle
        go_wp2
        refine bodyPost_ret (results_tmp2 rfl _ _ _) rfl ?_
        exact HX.out
  · have h01 : (c == 0) = false := by simpa using h0
    have h02 : (c != 0) = true := by simpa using h0
    have HX := Lib.hid (HP1.out c wn hc h0 hI.bel)
    clear hc hI fx
    go_wp2
    refine bodyPost_ret (results_tmp2 rfl _ _ _) rfl ?_
    exact HX.out
end Go.Proofs.YtnnbnecpcppkdaaDoor
namespace Go.Proofs.YtnnbnecpcppkdaaDoor
open Go Go.RowKit
set_option linter.unusedVariables false
section
variable {P : Program} {ops : Array Oper} {md : Region.Mode}
theorem wpAny_inv2 {Q : Exit → Act → World → Prop} {l : List Oper} (a0 : Act) (n : Nat) (B : World → Prop) (F : Nat → Value → World → Prop) (R : Nat → (Nat → Value) → Value → Prop)
    (hloc : ∀ (i : Nat) (o : Oper) (vs vs' : Nat → Value) (v : Value), l[i]? = some o → (∀ e ∈ o.after, Region.binds md e = true → vs e.on = vs' e.on) → R i vs v → R i vs' v)
    (hB : Region.invB md l.toArray n = true)
    (hstep : ∀ (i : Nat) (o : Oper), i < n → l[i]? = some o → ∀ (vs : Nat → Value) (W : World), B W → (∀ e ∈ o.after, Region.binds md e = true → F e.on (vs e.on) W) →
      Region.wanted o (yielded l.toArray (lexA l vs i a0).tmps) = true ∧ StepE P (lexA l vs i a0).eval o W (fun v W' => B W' ∧ F i v W' ∧ R i vs v ∧ ∀ j u, F j u W → F j u W'))
    (hfin : ∀ (vs : Nat → Value) (W : World), B W → (∀ i, i < n → F i (vs i) W) → (∀ i, i < n → R i vs (vs i)) → wpList P l.toArray Q (l.drop n) (lexA l vs n a0) W) :
    ∀ (f : Nat) (listed : Array Bool) (s : Nat → Bool) (vs : Nat → Value) (W : World), HeadInv md l.toArray n listed → (∀ j, s j = listed.getD j false) → cntI s n = f → B W → (∀ j, j < n → s j = true → F j (vs j) W ∧ R j vs (vs j)) →
      wpAny P md l.toArray Q (f + (l.toArray.size - n)) listed (putAll s vs l 0 a0) W := by
  simp only [Region.invB, Bool.and_eq_true, decide_eq_true_eq] at hB
  obtain ⟨⟨⟨⟨⟨⟨hsel, hn⟩, hs⟩, hc⟩, ht⟩, hdp⟩, hcan⟩ := hB
  obtain ⟨t1, t2, t3⟩ := Region.textB_spec ht
  have hn' : n < l.length := by simpa using hn
  intro f
  induction f with
  | zero =>
    intro listed s vs W inv hsl hcnt hBW hF
    have hall := cntI_zero n hcnt
    have hsn : ∀ j, s j = decide (j < n) := by
      intro j
      by_cases hj : j < n
      · rw [hall j hj, decide_eq_true hj]
      · rw [decide_eq_false hj, hsl j]
        by_cases hj2 : j < l.toArray.size
        · exact getD_both (inv.tail j (by omega) hj2)
        · simp [Array.getElem?_eq_none (show listed.size ≤ j by rw [inv.size]; omega)]
    have hlc : listed = ((List.range l.toArray.size).map fun j => decide (j < n)).toArray := by
      apply Array.ext
      · rw [inv.size]; simp
      · intro j h1 h2
        have h3 := hsl j
        rw [hsn j] at h3
        simp [h1] at h3
        simp [← h3]
    have hact : putAll s vs l 0 a0 = lexA l vs n a0 := putAll_congr l 0 a0 fun j _ => ⟨hsn j, rfl⟩
    have hdl : (l.drop n).length = l.toArray.size - n := by simp
    rw [Nat.zero_add, hact]
    have := wpAny_of_seq (md := md) (Q' := Q) (l.drop n) n listed (lexA l vs n a0) W (fun j => by simp [List.getElem?_drop]) (by rw [hdl, hlc]; exact hcan) (hfin vs W hBW (fun i hi => (hF i hi (hall i hi)).1) (fun i hi => (hF i hi (hall i hi)).2))
    rwa [hdl] at this
  | succ f ih =>
    intro listed s vs W inv hsl hcnt hBW hF
    obtain ⟨i0, hi0, hsi0, hbef⟩ := cntI_first n (by rw [hcnt]; omega)
    have hun : ∀ i, i < l.toArray.size → s i = false → listed.getD i true = false := fun i hi h => getD_in (by rw [inv.size]; exact hi) (by rw [← hsl i]; exact h)
    have hi0' : listed.getD i0 true = false := hun i0 (by simp; omega) hsi0
    have hrd : i0 ∈ Region.ready md l.toArray listed := by
      refine mem_ready.2 ⟨hi0', _, (by rw [List.getElem?_toArray]; exact List.getElem?_eq_getElem (show i0 < l.length by omega)), fun e he hb => ?_⟩
      rw [← hsl]
      exact hbef _ (Region.depB_spec hdp i0 _ (List.getElem?_eq_getElem (by omega)) e he hb)
    rw [show f + 1 + (l.toArray.size - n) = (f + (l.toArray.size - n)) + 1 by omega]
    refine ⟨fun h => (by rw [h] at hrd; cases hrd), fun i hi => ?_⟩
    have hin : i < n := by
      rcases Nat.lt_or_ge i n with h | h
      · exact h
      · exact absurd hi (tailW_waits hs hc hn inv _ i0 rfl hi0 hi0' i h)
    obtain ⟨hiun, o, ho, hdep⟩ := mem_ready.1 hi
    have hol : l[i]? = some o := by simpa using ho
    have hsi : s i = false := by rw [hsl i]; exact getD_both hiun
    have hdepF : ∀ e ∈ o.after, Region.binds md e = true → F e.on (vs e.on) W := fun e he hb => by
      have h1 : s e.on = true := by rw [hsl]; exact hdep e he hb
      have h2 : e.on < i := t1 i o hol e he hb (by
        rcases Nat.lt_or_ge e.on l.length with h | h
        · exact h
        · rw [hsl] at h1
          simp [Array.getElem?_eq_none (show listed.size ≤ e.on by rw [inv.size]; simpa using h)] at h1)
      exact (hF _ (by omega) h1).1
    obtain ⟨hw, hst⟩ := hstep i o hin hol vs W hBW hdepF
    have hG : ∀ {β : Type} (G : Act → β), (∀ (b : Act) (x : Option Tmp) v, (∀ d, x = some d → d ∉ o.looksAt l.toArray) → G (b.put x v) = G b) → G (putAll s vs l 0 a0) = G (lexA l vs i a0) := fun G hG => by
      refine putAll_lex G vs l a0 t2 hsi fun j hj hji oj hoj b v => hG b oj.dst v (t3 i j o oj hol hoj (Ne.symm hji) ?_)
      by_cases hjl : j < i
      · refine .inr fun e he hb heq => hj ?_
        rw [← heq] at hjl ⊢
        rw [hsl, hdep e he hb, decide_eq_true hjl]
      · exact .inl hjl
    have e1 : execOp (putAll s vs l 0 a0).eval o = execOp (lexA l vs i a0).eval o := hG (fun b => execOp b.eval o) fun b x v hx => execOp_put o (fun cs b' => Region.noSelect_spec hsel i o cs b' ho) b x v hx
    have e2 : Region.wanted o (yielded l.toArray (putAll s vs l 0 a0).tmps) = true := by
      rw [hG (fun b => Region.wanted o (yielded l.toArray b.tmps)) fun b x v hx => wanted_put o b x v hx]
      exact hw
    have hnext : ∀ v W', B W' → F i v W' → R i vs v → (∀ j u, F j u W → F j u W') → wpAny P md l.toArray Q (f + (l.toArray.size - n)) (listed.setIfInBounds i true) ((putAll s vs l 0 a0).put o.dst v) W' := fun v W' k1 k2 kr k3 => by
      rw [putAll_set s vs i v hsi l 0 a0 o (Nat.zero_le _) (by simpa using hol) t2]
      refine ih _ _ _ W' (inv.set hi hin) (fun j => ?_) (by have := cntI_set hsi n hin; omega) k1 (fun j hj hsj => ?_)
      · by_cases hji : j = i
        · subst hji
          rw [updI_same]
          have : j < listed.size := by rw [inv.size]; simp; omega
          simp [this]
        · rw [updI_ne s true hji, hsl j, getD_set_ne false (Ne.symm hji)]
      · by_cases hji : j = i
        · subst hji
          rw [updI_same]
          exact ⟨k2, hloc j o vs _ v hol (fun e he hb => (updI_ne vs v (fun h => by
            have h1 : s e.on = true := by rw [hsl]; exact hdep e he hb
            rw [h, hsi] at h1
            cases h1)).symm) kr⟩
        · rw [updI_ne vs v hji]
          rw [updI_ne s true hji] at hsj
          have hjl : j < l.length := by omega
          refine ⟨k3 j _ (hF j hj hsj).1, hloc j _ vs _ _ (List.getElem?_eq_getElem hjl) (fun e he hb => (updI_ne vs v (fun h => ?_)).symm) (hF j hj hsj).2⟩
          have h1 : s e.on = true := by rw [hsl]; exact inv.closed j _ (by rw [List.getElem?_toArray]; exact List.getElem?_eq_getElem hjl) (by rw [← hsl]; exact hsj) e he hb
          rw [h, hsi] at h1
          cases h1
    unfold Go.wpOp
    simp only [ho, e2, if_true]
    refine .inl ?_
    unfold Oper.wp
    rw [e1]
    rcases hst with ⟨v, W', hr, k1, k2, kr, k3⟩ | ⟨f', args, hr, hC⟩
    · rw [hr]; exact hnext v W' k1 k2 kr k3
    · rw [hr]
      refine hC.mono ?_
      rintro e W' ⟨v, rfl, k1, k2, kr, k3⟩
      exact hnext v W' k1 k2 kr k3
/-- the law: the first n operations, in whatever order, each with a property F of its own; then the others, in one order -/
theorem wp_region_inv2 {id : Nat} {Q : Exit → Act → World → Prop} {a : Act} {w : World} {l : List Oper} (n : Nat) (B : World → Prop) (F : Nat → Value → World → Prop) (R : Nat → (Nat → Value) → Value → Prop)
    (hloc : ∀ (i : Nat) (o : Oper) (vs vs' : Nat → Value) (v : Value), l[i]? = some o → (∀ e ∈ o.after, Region.binds .any e = true → vs e.on = vs' e.on) → R i vs v → R i vs' v) (hm : P.follows .mixedOrders = true) (hB : Region.invB .any l.toArray n = true) (hS : B w.drew)
    (hstep : ∀ (i : Nat) (o : Oper), i < n → l[i]? = some o → ∀ (vs : Nat → Value) (W : World), B W → (∀ e ∈ o.after, Region.binds .any e = true → F e.on (vs e.on) W) →
      Region.wanted o (yielded l.toArray (lexA l vs i a).tmps) = true ∧ StepE P (lexA l vs i a).eval o W (fun v W' => B W' ∧ F i v W' ∧ R i vs v ∧ ∀ j u, F j u W → F j u W'))
    (hfin : ∀ (vs : Nat → Value) (W : World), B W → (∀ i, i < n → F i (vs i) W) → (∀ i, i < n → R i vs (vs i)) → wpList P l.toArray Q (l.drop n) (lexA l vs n a) W) : (Code.region id l.toArray true).wp P Q a w := by
  have hB' := hB
  simp only [Region.invB, Bool.and_eq_true, decide_eq_true_eq] at hB
  obtain ⟨⟨⟨⟨⟨⟨hsel, hn⟩, hs⟩, hc⟩, ht⟩, hdp⟩, hcan⟩ := hB
  have hn' : n < l.length := by simpa using hn
  have inv0 : HeadInv .any l.toArray n (Array.replicate l.toArray.size false) :=
    ⟨by simp, fun j oj _ hl => (by rw [getD_replicate_false] at hl; cases hl), fun t _ ht => getD_in (by simpa using ht) (getD_replicate_false _ _)⟩
  refine wp_region_any hm ?_
  have hcnt : ∀ m, cntI (fun _ => false) m = m := fun m => by
    induction m with
    | zero => rfl
    | succ m ih => unfold cntI; rw [ih]; rfl
  have := wpAny_inv2 (P := P) (Q := Q) a n B F R hloc hB' hstep hfin n (Array.replicate l.toArray.size false) (fun _ => false) (fun _ => undef) w.drew inv0 (fun j => (getD_replicate_false _ _).symm) (hcnt n) hS (fun j _ h => by cases h)
  rw [show n + (l.toArray.size - n) = l.toArray.size by simp; omega] at this
  have h0 : ∀ (l : List Oper) (k : Nat) (b : Act), putAll (fun _ => false) (fun _ => undef) l k b = b := by
    intro l
    induction l with
    | nil => intro k b; rfl
    | cons o l ih => intro k b; unfold putAll; simpa using ih (k + 1) b
  rw [h0] at this
  exact this
end
end Go.Proofs.YtnnbnecpcppkdaaDoor
namespace Go.Proofs.YtnnbnecpcppkdaaDoor
open Go.RowKit Go.Gy
set_option linter.unusedVariables false
def CloneIs (w : World) (l : List Q3) (e : Ending) (w' : World) : Prop := ∃ v', e = .returned v' ∧ w'.ownsRow w.heap.size 25 3 v' l.length (l.flatMap encQ) ∧ Below w.heap.size w w'
theorem encQ_one (l : List Q3) : ∀ u ∈ l.flatMap encQ, u.oneCell' = true := by
  intro u hu
  obtain ⟨x, _, hx⟩ := List.mem_flatMap.1 hu
  simp only [encQ, List.mem_cons, List.not_mem_nil, or_false] at hx
  rcases hx with rfl | rfl | rfl <;> rfl
set_option maxRecDepth 100000 in
set_option maxHeartbeats 2000000 in
theorem clone_rats (w : World) (v : Value) (l : List Q3) (hx : SlQ w w.heap.size v l) (hb : l.length ≤ 1099511627776) :
    Calls Tryd.prog 76 #[v] w (CloneIs w l) := by
  obtain ⟨i0, hi, hi1⟩ := Option.map_eq_some_iff.1 info_rat
  injection hi1 with hz0 hi1
  injection hi1 with hz1 hz2
  obtain ⟨A, n, c, rfl, hxl, hnc, hA, hr⟩ := hx
  have he := fun w => Lib.run_eql_slice_nil (P := Tryd.prog) w 48 25 A n c 0 0 Tryd.underlying48
  cases A with
  | none =>
    have hc := hA rfl
    subst hc
    obtain rfl : n = 0 := by omega
    have hx0 : l = [] := List.eq_nil_of_length_eq_zero hxl
    subst hx0
    have HX := Lib.hid (show CloneIs w [] (.returned (.slice none 0 0)) w from ⟨_, rfl, World.ownsRow_nil _ _ _ _, Below.refl _ _⟩)
    clear hr hA hnc hxl
    go_enter Tryd.func76, Tryd.ntmps76
    go_wp2
    go_ret
    exact HX.out
  | some ad =>
    clear hA
    subst hxl
    go_enter Tryd.func76, Tryd.ntmps76
    go_wp2_with (at_builtin; refine wpList_extend rfl (.tmp 5) (.tmp 6) 48 rfl w.heap.size 25 i0 (.agg #[.bool false, .string { data := #[] }, .string { data := #[] }]) 3 40 Tryd.underlying48 hi hz0 hz1 hz2 rfl (by omega) _ _ _ rfl (World.ownsRow_lit w #[] 0 (Nat.le_refl _) (by omega) rfl) (some ad) l.length c w.heap.size (l.flatMap encQ) rfl (fun h => by cases h) (hr.alloc (Nat.le_refl _) _) (encQ_one l) (by unfold maxLen; omega) (by omega) (by simp) ?_; intro v1 w1 hown1 hb1)
    have HX := Lib.hid (show CloneIs w l (.returned v1) w1 from ⟨_, rfl, by simpa using hown1, ((Below.refl _ _).alloc (Nat.le_refl _) _).trans hb1⟩)
    obtain ⟨A1, c1, rfl, _, _, _⟩ := own_rd hown1
    clear hown1 hb1
    go_wp2
    go_ret
    exact HX.out
theorem set3 (q : Q3) : ∀ (l : List Q3) (i : Nat), i < l.length → (((l.flatMap encQ).set (i * 3) (.bool q.neg)).set (i * 3 + 1) (.string q.num)).set (i * 3 + 2) (.string q.den) = (l.set i q).flatMap encQ
  | [], i, h => absurd h (Nat.not_lt_zero i)
  | x :: l, 0, _ => by simp [encQ]
  | x :: l, i + 1, h => by
    have ih := set3 q l i (by simpa using h)
    rw [List.flatMap_cons, List.set_cons_succ, List.flatMap_cons, ← ih]
    simp only [encQ, List.cons_append, List.nil_append]
    rw [show (i + 1) * 3 = i * 3 + 1 + 1 + 1 by omega]
    simp only [List.set_cons_succ, show i * 3 + 1 + 1 + 1 + 1 = (i * 3 + 1) + 1 + 1 + 1 by omega, show i * 3 + 1 + 1 + 1 + 2 = (i * 3 + 2) + 1 + 1 + 1 by omega]
theorem own_set3 {w : World} {base g cap n : Nat} {e : TypeId} {l : List Q3} (h : w.ownsRow base e 3 (.slice (some ⟨g, 0, none⟩) n cap) n (l.flatMap encQ)) {i : Nat} (hi : i < l.length) (q : Q3) :
    (((w.setCell ⟨g, i * 3, none⟩ (.bool q.neg)).setCell ⟨g, i * 3 + 1, none⟩ (.string q.num)).setCell ⟨g, i * 3 + 2, none⟩ (.string q.den)).ownsRow base e 3 (.slice (some ⟨g, 0, none⟩) n cap) n ((l.set i q).flatMap encQ) := by
  rw [← set3 q l i hi]
  exact (((h.stored (i * 3) (.bool q.neg)).1.stored (i * 3 + 1) (.string q.num)).1.stored (i * 3 + 2) (.string q.den)).1
theorem grown3 (W : World) (g a b c : Nat) (x y z : Value) : W.grownBy (((W.setCell ⟨g, a, none⟩ x).setCell ⟨g, b, none⟩ y).setCell ⟨g, c, none⟩ z) (some g) :=
  grown_trans2 (grown_trans2 (grown_set W g a x) (grown_set _ g b y)) (grown_set _ g c z)
end Go.Proofs.YtnnbnecpcppkdaaDoor
namespace Go.Proofs.YtnnbnecpcppkdaaDoor
open Go.RowKit Go.Gy
set_option linter.unusedVariables false
theorem Q3.can.good2 {x : Q3} (h : x.can) : GoodR x.neg x.num x.den := by
  rw [h]
  exact parts_good _
theorem small1 {x : Q3} (h : x.can) (l : x.le 1) : SmallP x := by
  have h1 : x.num.size ≤ 1 := l.1
  have h2 : x.den.size ≤ 1 := l.2
  have b1 : sval x.num < 256 := by
    have := bval_lt x.num.data.toList
    exact Nat.lt_of_lt_of_le this (Nat.le_trans (Nat.pow_le_pow_right (by omega) (show x.num.data.toList.length ≤ 1 by simpa using h1)) (by decide))
  have b2 : sval x.den < 256 := by
    have := bval_lt x.den.data.toList
    exact Nat.lt_of_lt_of_le this (Nat.le_trans (Nat.pow_le_pow_right (by omega) (show x.den.data.toList.length ≤ 1 by simpa using h2)) (by decide))
  exact ⟨by omega, by omega, h.good2, by omega, by omega⟩
def areaZ (a b c : Int × Int) : Int := (b.1 - a.1) * (c.2 - a.2) - (b.2 - a.2) * (c.1 - a.1)
def convB (zs : List (Int × Int)) : Bool := (List.range zs.length).all fun i => (List.range zs.length).all fun k => decide (k < 2) ||
  (match zs[i]?, zs[(i + 1) % zs.length]?, zs[(i + k) % zs.length]? with
   | some a, some b, some c => decide (0 < areaZ a b c)
   | _, _, _ => false)
theorem mk4 (x : Int) : mkRat x 4 = (x : Rat) * (1 / 4) := by
  rw [Rat.mkRat_eq_div, Rat.div_def, show (((4 : Nat) : Rat))⁻¹ = 1 / 4 from by decide +kernel]
theorem area_pt {p q r : P2} {a b c : Int × Int} (hp : PtIs p a.1 a.2) (hq : PtIs q b.1 b.2) (hr : PtIs r c.1 c.2) : areaQ p q r = (areaZ a b c : Rat) * (1 / 16) := by
  unfold areaQ areaZ
  rw [hp.1, hp.2.1, hq.1, hq.2.1, hr.1, hr.2.1, mk4, mk4, mk4, mk4, mk4, mk4, Rat.intCast_sub, Rat.intCast_mul, Rat.intCast_mul, Rat.intCast_sub, Rat.intCast_sub, Rat.intCast_sub, Rat.intCast_sub]
  grind
theorem area_pos {p q r : P2} {a b c : Int × Int} (hp : PtIs p a.1 a.2) (hq : PtIs q b.1 b.2) (hr : PtIs r c.1 c.2) (h : 0 < areaZ a b c) : 0 < areaQ p q r := by
  rw [area_pt hp hq hr]
  have h1 : ((0 : Int) : Rat) < (areaZ a b c : Rat) := Rat.intCast_lt_intCast.mpr h
  have h0 : ((0 : Int) : Rat) = 0 := rfl
  rw [h0] at h1
  grind
theorem PtsOf.get : ∀ {l : List P2} {zs : List (Int × Int)}, PtsOf l zs → ∀ {i : Nat} {p : P2}, l[i]? = some p → ∃ z, zs[i]? = some z ∧ PtIs p z.1 z.2
  | [], _, _, _, _, hi => by simp at hi
  | p :: l, z :: zs, h, 0, q, hi => by
    simp only [List.getElem?_cons_zero, Option.some.injEq] at hi
    subst hi
    exact ⟨z, rfl, h.1⟩
  | p :: l, z :: zs, h, i + 1, q, hi => PtsOf.get h.2 (i := i) (by simpa using hi)
  | _ :: _, [], h, _, _, _ => False.elim h
theorem conv_shape {c : Int} (hc : 0 ≤ c ∧ c ≤ 3) {zs : List (Int × Int)} (h : zs = [(-1, -1), (4 + 2 * c + 1, -1), (4 + 2 * c + 1, 1), (-1, 1)] ∨ zs = [(-1, -1), (4 + 2 * c + 1, 0), (-1, 1)]) : convB zs = true := by
  have h4 : c = 0 ∨ c = 1 ∨ c = 2 ∨ c = 3 := by omega
  rcases h4 with rfl | rfl | rfl | rfl <;> rcases h with rfl | rfl <;> decide +kernel
theorem conv_of {l : List P2} {zs : List (Int × Int)} (hl : PtsOf l zs) (hc : convB zs = true) : Conv l := by
  have hlen := hl.len2
  unfold convB at hc
  rw [List.all_eq_true] at hc
  intro i k hi hk2 hk a b c ha hb hcc
  have h1 := hc i (List.mem_range.2 (by omega))
  rw [List.all_eq_true] at h1
  have h2 := h1 k (List.mem_range.2 (by omega))
  rw [decide_eq_false (by omega : ¬ k < 2), Bool.false_or] at h2
  rw [hlen] at hb hcc
  obtain ⟨za, ea, pa⟩ := hl.get ha
  obtain ⟨zb, eb, pb⟩ := hl.get hb
  obtain ⟨zc, ec, pc⟩ := hl.get hcc
  rw [ea, eb, ec] at h2
  exact area_pos pa pb pc (of_decide_eq_true h2)
theorem len_pos (c : Int) (hc : 0 ≤ c ∧ c ≤ 3) : 0 < mkRat (4 + 2 * c) 4 := by
  have h4 : c = 0 ∨ c = 1 ∨ c = 2 ∨ c = 3 := by omega
  rcases h4 with rfl | rfl | rfl | rfl <;> decide +kernel
theorem sp_pos (d : Int) (hd : 0 ≤ d ∧ d ≤ 7) : 0 < mkRat 1 (4 + d).toNat := by
  have h8 : d = 0 ∨ d = 1 ∨ d = 2 ∨ d = 3 ∨ d = 4 ∨ d = 5 ∨ d = 6 ∨ d = 7 := by omega
  rcases h8 with rfl | rfl | rfl | rfl | rfl | rfl | rfl | rfl <;> decide +kernel
theorem low_neg (a : Int) (h : 0 ≤ a ∧ a ≤ 5) : mkRat (-1 - a) 3 < 0 := by
  have h6 : a = 0 ∨ a = 1 ∨ a = 2 ∨ a = 3 ∨ a = 4 ∨ a = 5 := by omega
  rcases h6 with rfl | rfl | rfl | rfl | rfl | rfl <;> decide +kernel
theorem high_pos (a : Int) (h : 0 ≤ a ∧ a ≤ 5) : 0 < mkRat (1 + a) 3 := by
  have h6 : a = 0 ∨ a = 1 ∨ a = 2 ∨ a = 3 ∨ a = 4 ∨ a = 5 := by omega
  rcases h6 with rfl | rfl | rfl | rfl | rfl | rfl <;> decide +kernel
theorem PtsOf.all {l : List P2} {zs : List (Int × Int)} (h : PtsOf l zs) : ∀ p ∈ l, p.can ∧ p.le 1 := by
  intro p hp
  obtain ⟨i, hi, rfl⟩ := List.getElem_of_mem hp
  obtain ⟨z, _, hpt⟩ := h.get (List.getElem?_eq_getElem hi)
  exact ⟨hpt.2.2.1, hpt.2.2.2⟩
theorem GenLk.ok {k : Lk} {l : List P2} (h : GenLk k l) : LinkE k l 0 := by
  have hbr := h.brake.1
  obtain ⟨c, a, e, d, f, zs, hc, ha, he, hd, hf, ⟨q1, q2, q3, q4, q5⟩, ⟨c1, c2, c3, c4, c5⟩, ⟨l1, l2, l3, l4, l5⟩, hp, hz⟩ := h
  refine .inr ⟨⟨?_, ?_, ?_, ?_, hbr⟩, 0, ?_, .inr (.inr ⟨rfl, ?_, rfl⟩)⟩
  · intro x hx
    simp only [List.mem_cons, List.not_mem_nil, or_false] at hx
    rcases hx with rfl | rfl | rfl | rfl | rfl
    · exact small1 c1 l1
    · exact small1 c2 l2
    · exact small1 c3 l3
    · exact small1 c4 l4
    · exact small1 c5 l5
  · rw [q1]; exact len_pos c hc
  · rw [q2, q3]
    have h1 := low_neg a ha
    have h2 := high_pos e he
    grind
  · rw [q4]; exact sp_pos d hd
  · have hl : l.length = 3 ∨ l.length = 4 := by
      have := hp.len2
      rcases hz with rfl | rfl
      · exact .inr this
      · exact .inl this
    exact .inr (.inr (.inr ⟨by omega, by omega, conv_of hp (conv_shape hc hz), rfl⟩))
  · intro p hpm x hx
    obtain ⟨h1, h2⟩ := hp.all p hpm
    simp only [List.mem_cons, List.not_mem_nil, or_false] at hx
    rcases hx with rfl | rfl
    · exact small1 h1.1 h2.1
    · exact small1 h1.2 h2.2
theorem GenAr.ok {a : Ar} (h : GenAr a) : ArmE a 0 := by
  have hl := h.len
  refine .inr (.inr (.inr ⟨?_, hl.2, by omega, ⟨?_, ?_⟩, LinksE.ok fun x hx => (h.lk x hx).ok⟩))
  · rw [h.nm]
    refine ⟨fun i hi => ?_, by decide, by decide⟩
    have h3 : i = 0 ∨ i = 1 ∨ i = 2 := by
      have : i < 3 := hi
      omega
    rcases h3 with rfl | rfl | rfl
    · exact (by decide : 97 ≤ (111 : Nat) ∧ (111 : Nat) ≤ 122)
    · exact (by decide : 97 ≤ (110 : Nat) ∧ (110 : Nat) ≤ 122)
    · exact (by decide : 97 ≤ (101 : Nat) ∧ (101 : Nat) ≤ 122)
  · intro x hx
    simp only [List.mem_cons, List.not_mem_nil, or_false] at hx
    rcases hx with rfl | rfl | rfl
    · exact small1 h.p.2.2.1.1 h.p.2.2.2.1
    · exact small1 h.p.2.2.1.2 h.p.2.2.2.2
    · exact small1 h.t.1 h.t.2
  · rw [h.half]
    intro hh
    cases hh.1
theorem GenLk.le {k : Lk} {l : List P2} (h : GenLk k l) : k.le 1 ∧ (∀ y ∈ l, y.le 1) ∧ l.length ≤ 4 := by
  obtain ⟨c, a, e, d, f, zs, _, _, _, _, _, _, _, hl, hp, hz⟩ := h
  refine ⟨hl, fun y hy => (hp.all y hy).2, ?_⟩
  have := hp.len2
  rcases hz with rfl | rfl
  · exact Nat.le_of_eq this
  · rw [this]; simp
theorem GenAr.le {a : Ar} (h : GenAr a) : a.le 4 := by
  refine ⟨⟨h.p.2.2.2.1.more (by decide), h.p.2.2.2.2.more (by decide)⟩, h.t.2.more (by decide), by rw [h.nm]; decide, fun x hx => ?_⟩
  obtain ⟨h1, h2, h3⟩ := (h.lk x hx).le
  exact ⟨h1.more (by decide), fun y hy => ⟨(h2 y hy).1.more (by decide), (h2 y hy).2.more (by decide)⟩, h3⟩
end Go.Proofs.YtnnbnecpcppkdaaDoor
namespace Go.Proofs.YtnnbnecpcppkdaaDoor
open Go.RowKit Go.Gy
set_option linter.unusedVariables false
/-- a joint behind a tick of braking -/
def BrkAt (N : Nat) (k : Lk) (q v q' v' : Q3) : Prop := v'.q = slowQ k.brake.q v.q ∧ q'.q = q.q + v'.q ∧ v'.can ∧ q'.can ∧ v'.le (N + N + 8) ∧ q'.le (N + (N + N + 8) + 1)
/-- the first i joints have braked, the others stand as they were -/
def BrkTo (N : Nat) (L : List (Lk × List P2)) (ql vl qs vs : List Q3) (i : Nat) : Prop := qs.length = ql.length ∧ vs.length = vl.length ∧
  (∀ (j : Nat) (x : Lk × List P2) (q v q' v' : Q3), j < i → L[j]? = some x → ql[j]? = some q → vl[j]? = some v → qs[j]? = some q' → vs[j]? = some v' → BrkAt N x.1 q v q' v') ∧
  (∀ j : Nat, i ≤ j → qs[j]? = ql[j]? ∧ vs[j]? = vl[j]?)
def BrakePost (w : World) (N : Nat) (a : Ar) (ql vl : List Q3) (pw : Bool) (hd : Int) (e : Ending) (w' : World) : Prop := ∃ (vq vv : Value) (p : Bool) (h c : Int), e = .returned (.tuple #[.agg #[vq, vv, .bool p, .int .i64 h], .int .i64 c]) ∧ Below w.heap.size w w' ∧
  ((FitsE a ql.length vl.length c ∧ c ≠ 0 ∧ vq = .slice none 0 0 ∧ vv = .slice none 0 0 ∧ p = false ∧ h = 0) ∨
   (FitsE a ql.length vl.length 0 ∧ c = 0 ∧ p = pw ∧ h = hd ∧ ∃ qs vs, SlQ w' w'.heap.size vq qs ∧ SlQ w' w'.heap.size vv vs ∧ BrkTo N a.L ql vl qs vs a.L.length))
/-- what the operations of 'out := ..' yield -/
def BrkF (w : World) (g : Nat) (vq vv : Value) (ql vl : List Q3) (pw : Bool) (hd : Int) (i : Nat) (v : Value) (W : World) : Prop :=
  match i with
  | 0 => v = .pointer (some ⟨g + 1, 0, none⟩)
  | 1 => v = vq
  | 2 => W.ownsRow w.heap.size 25 3 v ql.length (ql.flatMap encQ) ∧ ∃ A n c, v = .slice A n c
  | 3 => v = .pointer (some ⟨g + 1, 1, none⟩)
  | 4 => v = vv
  | 5 => W.ownsRow w.heap.size 25 3 v vl.length (vl.flatMap encQ) ∧ ∃ A n c, v = .slice A n c
  | 6 => v = .pointer (some ⟨g + 1, 2, none⟩)
  | 7 => v = .bool pw
  | 8 => v = .pointer (some ⟨g + 1, 3, none⟩)
  | 9 => v = .int .i64 hd
  | 10 => ∃ v1 v2, v = .agg #[v1, v2, .bool pw, .int .i64 hd]
  | 11 => ∃ b, v = .pointer (some ⟨b, 0, none⟩) ∧ w.heap.size + 3 ≤ b ∧ Blk W b 61 #[.slice none 0 0, .slice none 0 0, .bool false, .int .i64 0]
  | _ => True
/-- the two rows lie apart; the state is of them -/
def BrkR (i : Nat) (vs : Nat → Value) (v : Value) (pw : Bool) (hd : Int) : Prop :=
  match i with
  | 5 => ∀ b, (vs 2).ownBlock = some b → v.ownBlock ≠ some b
  | 10 => v = .agg #[vs 2, vs 5, .bool pw, .int .i64 hd]
  | _ => True
theorem own_base2 {w : World} {base base' : Nat} {e : TypeId} {size n : Nat} {v : Value} {xs : List Value} (h : w.ownsRow base' e size v n xs) (hb : base ≤ base') : w.ownsRow base e size v n xs := by
  obtain ⟨h1, h2 | ⟨g, cap, cur, h2, h3, h4⟩⟩ := h
  · exact ⟨h1, .inl h2⟩
  · exact ⟨h1, .inr ⟨g, cap, cur, h2, by omega, h4⟩⟩
theorem BrkF.below {w W W' : World} {g : Nat} {vq vv : Value} {ql vl : List Q3} {pw : Bool} {hd : Int} (hb : Below W.heap.size W W') : ∀ j u, BrkF w g vq vv ql vl pw hd j u W → BrkF w g vq vv ql vl pw hd j u W' := by
  intro j u hF
  rcases j with _ | _ | _ | _ | _ | _ | _ | _ | _ | _ | _ | _ | j
  all_goals try exact hF
  · exact ⟨own_below hF.1 hb (Nat.le_refl _), hF.2⟩
  · exact ⟨own_below hF.1 hb (Nat.le_refl _), hF.2⟩
  · obtain ⟨b, h1, h2, h3⟩ := hF
    exact ⟨b, h1, h2, h3.below hb h3.lt⟩
theorem In.all4 {w W : World} {a b : List (Nat × TypeId × Array Value)} {g : Nat} {t : TypeId} {x0 x1 x2 x3 : Value} (h : In w (a ++ (g, t, #[x0, x1, x2, x3]) :: b) W) (u0 u1 u2 u3 : Value) :
    In w (a ++ (g, t, #[u0, u1, u2, u3]) :: b) ((((W.setCell ⟨g, 0, none⟩ u0).setCell ⟨g, 1, none⟩ u1).setCell ⟨g, 2, none⟩ u2).setCell ⟨g, 3, none⟩ u3) := by
  replace h : In w (a ++ (g, t, #[u0, x1, x2, x3]) :: b) (W.setCell ⟨g, 0, none⟩ u0) := h.set 0 u0
  replace h : In w (a ++ (g, t, #[u0, u1, x2, x3]) :: b) ((W.setCell ⟨g, 0, none⟩ u0).setCell ⟨g, 1, none⟩ u1) := h.set 1 u1
  replace h : In w (a ++ (g, t, #[u0, u1, u2, x3]) :: b) (((W.setCell ⟨g, 0, none⟩ u0).setCell ⟨g, 1, none⟩ u1).setCell ⟨g, 2, none⟩ u2) := h.set 2 u2
  exact h.set 3 u3
theorem grown4 (W : World) (g : Nat) (u0 u1 u2 u3 : Value) : W.grownBy ((((W.setCell ⟨g, 0, none⟩ u0).setCell ⟨g, 1, none⟩ u1).setCell ⟨g, 2, none⟩ u2).setCell ⟨g, 3, none⟩ u3) (some g) :=
  grown_trans2 (grown_trans2 (grown_trans2 (grown_set W g 0 _) (grown_set _ g 1 _)) (grown_set _ g 2 _)) (grown_set _ g 3 _)
theorem own_slc {w : World} {base n size : Nat} {e : TypeId} {v : Value} {xs : List Value} (h : w.ownsRow base e size v n xs) : ∃ A n c, v = .slice A n c := by
  obtain ⟨_, ⟨hv, _⟩ | ⟨g, cap, cur, hv, _⟩⟩ := h
  · exact ⟨_, _, _, hv⟩
  · exact ⟨_, _, _, hv⟩
/-- out, and its two rows -/
def BrkW (w : World) (b g1 c1 g2 c2 : Nat) (LS : List (Nat × TypeId × Array Value)) (pw : Bool) (hd : Int) (n m : Nat) (qs vs : List Q3) (W : World) : Prop :=
  In w ((b, 61, #[.slice (some ⟨g1, 0, none⟩) n c1, .slice (some ⟨g2, 0, none⟩) m c2, .bool pw, .int .i64 hd]) :: LS) W ∧
  W.ownsRow w.heap.size 25 3 (.slice (some ⟨g1, 0, none⟩) n c1) n (qs.flatMap encQ) ∧ W.ownsRow w.heap.size 25 3 (.slice (some ⟨g2, 0, none⟩) m c2) m (vs.flatMap encQ) ∧ g1 ≠ g2
theorem BrkW.call {w W W' : World} {b g1 c1 g2 c2 : Nat} {LS : List (Nat × TypeId × Array Value)} {pw : Bool} {hd : Int} {n m : Nat} {qs vs : List Q3} (h : BrkW w b g1 c1 g2 c2 LS pw hd n m qs vs W) (hb : Below W.heap.size W W') : BrkW w b g1 c1 g2 c2 LS pw hd n m qs vs W' :=
  ⟨h.1.call hb, own_below h.2.1 hb (Nat.le_refl _), own_below h.2.2.1 hb (Nat.le_refl _), h.2.2.2⟩
/-- no block of ls holds numbers -/
def NoRat (ls : List (Nat × TypeId × Array Value)) : Prop := ∀ x ∈ ls, x.2.1 ≠ 25
theorem BrkW.setV {w W : World} {b g1 c1 g2 c2 : Nat} {LS : List (Nat × TypeId × Array Value)} {pw : Bool} {hd : Int} {n m : Nat} {qs vs : List Q3} (h : BrkW w b g1 c1 g2 c2 LS pw hd n m qs vs W) (hn : NoRat LS) {i : Nat} (hi : i < vs.length) (q : Q3) :
    BrkW w b g1 c1 g2 c2 LS pw hd n m qs (vs.set i q) (((W.setCell ⟨g2, i * 3, none⟩ (.bool q.neg)).setCell ⟨g2, i * 3 + 1, none⟩ (.string q.num)).setCell ⟨g2, i * 3 + 2, none⟩ (.string q.den)) := by
  obtain ⟨hI, h1, h2, h3⟩ := h
  have hg := grown3 W g2 (i * 3) (i * 3 + 1) (i * 3 + 2) (.bool q.neg) (.string q.num) (.string q.den)
  refine ⟨hI.next hg (h2.lt g2 rfl).1 (fun x hx e => ?_), h1.kept hg (.inr (fun e => h3 (Option.some.inj e))), own_set3 h2 hi q, h3⟩
  have h4 := own_type h2 (g := x.1) (by rw [e]; rfl) (hI.blk x hx)
  rcases List.mem_cons.1 hx with rfl | hx
  · exact absurd (show (61 : Nat) = 25 from h4) (by decide)
  · exact hn x hx h4
theorem BrkW.setQ {w W : World} {b g1 c1 g2 c2 : Nat} {LS : List (Nat × TypeId × Array Value)} {pw : Bool} {hd : Int} {n m : Nat} {qs vs : List Q3} (h : BrkW w b g1 c1 g2 c2 LS pw hd n m qs vs W) (hn : NoRat LS) {i : Nat} (hi : i < qs.length) (q : Q3) :
    BrkW w b g1 c1 g2 c2 LS pw hd n m (qs.set i q) vs (((W.setCell ⟨g1, i * 3, none⟩ (.bool q.neg)).setCell ⟨g1, i * 3 + 1, none⟩ (.string q.num)).setCell ⟨g1, i * 3 + 2, none⟩ (.string q.den)) := by
  obtain ⟨hI, h1, h2, h3⟩ := h
  have hg := grown3 W g1 (i * 3) (i * 3 + 1) (i * 3 + 2) (.bool q.neg) (.string q.num) (.string q.den)
  refine ⟨hI.next hg (h1.lt g1 rfl).1 (fun x hx e => ?_), own_set3 h1 hi q, h2.kept hg (.inr (fun e => h3 (Option.some.inj e).symm)), h3⟩
  have h4 := own_type h1 (g := x.1) (by rw [e]; rfl) (hI.blk x hx)
  rcases List.mem_cons.1 hx with rfl | hx
  · exact absurd (show (61 : Nat) = 25 from h4) (by decide)
  · exact hn x hx h4
theorem own_cells {W : World} {base g n c i : Nat} {l : List Q3} {y : Q3} (h : W.ownsRow base 25 3 (.slice (some ⟨g, 0, none⟩) n c) n (l.flatMap encQ)) (hy : l[i]? = some y) :
    W.cell? ⟨g, i * 3, none⟩ = some (.bool y.neg) ∧ W.cell? ⟨g, i * 3 + 1, none⟩ = some (.string y.num) ∧ W.cell? ⟨g, i * 3 + 2, none⟩ = some (.string y.den) := by
  obtain ⟨A, n', c', he, _, _, _, hr⟩ := SlQ.own h
  injection he with he1 he2 he3
  subst he1
  obtain ⟨b, o, he, _, e0, e1, e2⟩ := Rd.quot hr hy
  injection he with he
  injection he with h1 h2
  subst h1 h2
  rw [Nat.zero_add] at e0 e1 e2
  exact ⟨e0, e1, e2⟩
theorem BrkTo.start {N : Nat} {L : List (Lk × List P2)} {ql vl : List Q3} : BrkTo N L ql vl ql vl 0 := ⟨rfl, rfl, fun j _ _ _ _ _ h => absurd h (Nat.not_lt_zero j), fun _ _ => ⟨rfl, rfl⟩⟩
theorem BrkTo.step {N : Nat} {L : List (Lk × List P2)} {ql vl qs vs : List Q3} {i : Nat} {x : Lk × List P2} {q v q' v' : Q3} (h : BrkTo N L ql vl qs vs i) (hx : L[i]? = some x) (hq : ql[i]? = some q) (hv : vl[i]? = some v) (hb : BrkAt N x.1 q v q' v') : BrkTo N L ql vl (qs.set i q') (vs.set i v') (i + 1) := by
  obtain ⟨h1, h2, h3, h4⟩ := h
  have hqi := (List.getElem?_eq_some_iff.1 hq).1
  have hvi := (List.getElem?_eq_some_iff.1 hv).1
  refine ⟨by rw [List.length_set, h1], by rw [List.length_set, h2], fun j y a b a' b' hj k1 k2 k3 k4 k5 => ?_, fun j hj => ?_⟩
  · rw [List.getElem?_set] at k4 k5
    by_cases hji : i = j
    · subst hji
      rw [if_pos rfl, if_pos (by omega)] at k4 k5
      rw [hx] at k1; rw [hq] at k2; rw [hv] at k3
      cases k1; cases k2; cases k3; cases k4; cases k5
      exact hb
    · rw [if_neg hji] at k4 k5
      exact h3 j y a b a' b' (by omega) k1 k2 k3 k4 k5
  · rw [List.getElem?_set, List.getElem?_set, if_neg (by omega), if_neg (by omega)]
    exact h4 j (by omega)
def BkRel (w : World) (N b g1 c1 g2 c2 : Nat) (LS : List (Nat × TypeId × Array Value)) (pw : Bool) (hd : Int) (L : List (Lk × List P2)) (ql vl : List Q3) (i : Value) (wr : World) : Prop :=
  ∃ (k : Nat) (qs vs : List Q3), i = .int .i64 k ∧ k ≤ L.length ∧ BrkTo N L ql vl qs vs k ∧ BrkW w b g1 c1 g2 c2 LS pw hd ql.length vl.length qs vs wr
set_option maxRecDepth 100000 in
set_option maxHeartbeats 8000000 in
theorem brake_any (w : World) (hT : TabW w) (a : Ar) {N : Nat} (hA : a.At w w.heap.size) (hle : a.le N) (vq vv : Value) (ql vl : List Q3) (pw : Bool) (hd : Int) (hq : SlQ w w.heap.size vq ql) (hv : SlQ w w.heap.size vv vl) (lq : ∀ x ∈ ql, x.le N) (lv : ∀ x ∈ vl, x.le N) (hN : 1 ≤ N ∧ N ≤ 67108864) :
    Calls Tryd.prog 37 #[a.val, .agg #[vq, vv, .bool pw, .int .i64 hd]] w (BrakePost w N a ql vl pw hd) := by
  have HSQ := Lib.hid hq
  have HSV := Lib.hid hv
  obtain ⟨Aq, nq, Cq, rfl, hqn, _, _, hrq⟩ := hq
  obtain ⟨Av, nv, Cv, rfl, hvn, _, _, hrv⟩ := hv
  subst hqn hvn
  have HT := Lib.hid hT
  have HFI := Lib.hid (fun W (hW : Below w.heap.size w W) => fits_any W (tabs w hT hW) a (hA.up hW) hle (by omega) Aq Av ql.length Cq vl.length Cv)
  have HRQ := Lib.hid hrq
  have HRV := Lib.hid hrv
  have HLQ := Lib.hid lq
  have HLV := Lib.hid lv
  obtain ⟨ar, har⟩ : ∃ ar, ar = a := ⟨_, rfl⟩
  rw [← har] at HFI ⊢
  obtain ⟨nm, ⟨px, py⟩, hf, t, va, L⟩ := a
  obtain ⟨⟨A, n9, C, hva, hNL, _, _, hrd⟩, hshp⟩ := hA
  obtain rfl : va = .slice A n9 C := hva
  obtain rfl : L.length = n9 := (Ar.ks_len ⟨nm, ⟨px, py⟩, hf, t, .slice A n9 C, L⟩).symm.trans hNL
  have hval : ar.val = .agg #[.string nm, .bool px.neg, .string px.num, .string px.den, .bool py.neg, .string py.num, .string py.den, .bool hf, .bool t.neg, .string t.num, .string t.den, .slice A L.length C] := by rw [har]; rfl
  have hLL : ar.L = L := by rw [har]
  rw [hval] at HFI ⊢
  have HRD := Lib.hid hrd
  have HSH := Lib.hid (show ∀ x ∈ L, SlP w w.heap.size x.1.shape x.2 from hshp)
  have HKL := Lib.hid (show ∀ x ∈ L, x.1.le N ∧ (∀ y ∈ x.2, y.le N) ∧ x.2.length ≤ N from hle.2.2.2)
  have HKS := Lib.hid (show ∀ i : Nat, (L.map (·.1))[i]? = (L[i]?).map (·.1) from fun i => List.getElem?_map)
  have HP1 := Lib.hid (show ∀ c W, FitsE ar ql.length vl.length c → c ≠ 0 → Below w.heap.size w W → BrakePost w N ar ql vl pw hd (.returned (.tuple #[.agg #[.slice none 0 0, .slice none 0 0, .bool false, .int .i64 0], .int .i64 c])) W from fun c W h h0 hb => ⟨_, _, _, _, c, rfl, hb, .inl ⟨h, h0, rfl, rfl, rfl, rfl⟩⟩)
  have HP2 := Lib.hid (show ∀ v1 v2 qs vs W, FitsE ar ql.length vl.length 0 → SlQ W W.heap.size v1 qs → SlQ W W.heap.size v2 vs → BrkTo N L ql vl qs vs L.length → Below w.heap.size w W → BrakePost w N ar ql vl pw hd (.returned (.tuple #[.agg #[v1, v2, .bool pw, .int .i64 hd], .int .i64 0])) W from fun v1 v2 qs vs W h h1 h2 h3 hb => ⟨_, _, _, _, 0, rfl, hb, .inr ⟨h, rfl, rfl, rfl, qs, vs, h1, h2, by rw [hLL]; exact h3⟩⟩)
  have HFZ := Lib.hid (show FitsE ar ql.length vl.length 0 → ql.length = L.length ∧ vl.length = L.length ∧ L.length ≤ 3 ∧ 1 ≤ L.length from fun h => by
    have h1 := h.zero
    rw [hLL] at h1
    have h2 := h1.1.zero rfl
    rw [hLL] at h2
    exact ⟨h1.2.1, h1.2.2, h2.2.1, h2.1⟩)
  have hI := (((In.start w).alloc 37 #[.string nm, .bool px.neg, .string px.num, .string px.den, .bool py.neg, .string py.num, .string py.den, .bool hf, .bool t.neg, .string t.num, .string t.den, .slice A L.length C]).alloc 61 #[.slice Aq ql.length Cq, .slice Av vl.length Cv, .bool pw, .int .i64 hd]).alloc 61 #[.slice none 0 0, .slice none 0 0, .bool false, .int .i64 0]
  rw [World.size_alloc, World.size_alloc] at hI
  clear hrq hrv lq lv hT hval hLL har hrd hshp hNL hle
  go_enter Tryd.func37, Tryd.ntmps37
  go_upto_region 1 with (fail)
  obtain ⟨g, hg⟩ : ∃ g, g = w.heap.size := ⟨_, rfl⟩
  rw [← hg] at hI ⊢
  have HG := Lib.hid hg
  clear hg
  generalize World.alloc _ _ = W1 at hI ⊢
  have fx := hI.facts
  simp only [factsOf, cellsOf, Nat.zero_add, Nat.reduceAdd] at fx
  go_wp2_with fail
  refine (HFI.out _ hI.bel).mono ?_
  rintro e wn ⟨c, rfl, hc, hb⟩
  replace hI := hI.call hb
  clear hb fx HFI
  by_cases h0 : c = 0
  · subst h0
    have HC := Lib.hid hc
    obtain ⟨hq1, hv1, hL3, hL1⟩ := HFZ.out hc
    have HQ1 := Lib.hid hq1
    have HV1 := Lib.hid hv1
    clear hc hq1 hv1
    go_upto_region 4 with (fail)
    go_cut [7] (fun p wx => ∃ b g1 c1 g2 c2 : Nat, p = .pointer (some ⟨b, 0, none⟩) ∧ BrkW w b g1 c1 g2 c2 [(g + 1 + 1, 61, #[.slice none 0 0, .slice none 0 0, .bool false, .int .i64 0]), (g + 1, 61, #[.slice Aq ql.length Cq, .slice Av vl.length Cv, .bool pw, .int .i64 hd]), (g, 37, #[.string nm, .bool px.neg, .string px.num, .string px.den, .bool py.neg, .string py.num, .string py.den, .bool hf, .bool t.neg, .string t.num, .string t.den, .slice A L.length C])] pw hd ql.length vl.length ql vl wx)
    case first =>
      as_aux_lemma =>
      refine wp_region_inv2 12 (In w [(g + 1 + 1, 61, #[.slice none 0 0, .slice none 0 0, .bool false, .int .i64 0]), (g + 1, 61, #[.slice Aq ql.length Cq, .slice Av vl.length Cv, .bool pw, .int .i64 hd]), (g, 37, #[.string nm, .bool px.neg, .string px.num, .string px.den, .bool py.neg, .string py.num, .string py.den, .bool hf, .bool t.neg, .string t.num, .string t.den, .slice A L.length C])]) (BrkF w g (.slice Aq ql.length Cq) (.slice Av vl.length Cv) ql vl pw hd) (fun i vs v => BrkR i vs v pw hd) ?_ (by kernel_rfl) (by kernel_rfl) hI.drew ?_ ?_
      · intro i o vs vs' v ho heq hR
        rcases i with _ | _ | _ | _ | _ | _ | _ | _ | _ | _ | _ | i
        all_goals try exact trivial
        · simp only [List.getElem?_cons_succ, List.getElem?_cons_zero, Option.some.injEq] at ho
          subst ho
          have h2 : vs 2 = vs' 2 := heq ⟨2, .chain⟩ (by simp) rfl
          show ∀ b, (vs' 2).ownBlock = some b → v.ownBlock ≠ some b
          rw [← h2]
          exact hR
        · simp only [List.getElem?_cons_succ, List.getElem?_cons_zero, Option.some.injEq] at ho
          subst ho
          have h2 : vs 2 = vs' 2 := heq ⟨2, .data⟩ (by simp) rfl
          have h5 : vs 5 = vs' 5 := heq ⟨5, .data⟩ (by simp) rfl
          show v = .agg #[vs' 2, vs' 5, .bool pw, .int .i64 hd]
          rw [← h2, ← h5]
          exact hR
      · intro i o hi ho vs W hI hdep
        rcases i with _ | _ | _ | _ | _ | _ | _ | _ | _ | _ | _ | _ | i
        all_goals first | omega | skip
        all_goals (simp only [List.getElem?_cons_succ, List.getElem?_cons_zero, Option.some.injEq] at ho; subst ho)
        · skip
          refine ⟨rfl, .inl ⟨.pointer (some ⟨g + 1, 0, none⟩), W, ?_, hI, rfl, trivial, fun j u h => h⟩⟩
          unfold lexA
          simp only [putAll, preI, Nat.reduceLT, Nat.reduceAdd, decide_false, Bool.false_eq_true, if_false]
          go_simp
        · have d0 : vs 0 = .pointer (some ⟨g + 1, 0, none⟩) := hdep ⟨0, .data⟩ (by simp) rfl
          have fx := hI.facts
          simp only [factsOf, cellsOf, Nat.zero_add, Nat.reduceAdd] at fx
          refine ⟨rfl, .inl ⟨.slice Aq ql.length Cq, W, ?_, hI, rfl, trivial, fun j u h => h⟩⟩
          clear hI
          unfold lexA
          simp only [putAll, preI, Nat.reduceLT, Nat.reduceAdd, decide_true, decide_false, Bool.false_eq_true, if_true, if_false, Act.put, List.setIfInBounds_toArray, List.set_cons_zero, List.set_cons_succ]
          go_simp
        · have d1 : vs 1 = .slice Aq ql.length Cq := hdep ⟨1, .data⟩ (by simp) rfl
          refine ⟨rfl, .inr ⟨_, _, ?_, (clone_rats W (.slice Aq ql.length Cq) ql ((HSQ.out.below hI.bel).more hI.bel.size) (by rw [HQ1.out]; omega)).mono fun e W' ⟨v', he, ho, hb⟩ => ⟨v', he, hI.call hb, ⟨own_base2 ho hI.bel.size, own_slc ho⟩, trivial, BrkF.below hb⟩⟩⟩
          unfold lexA
          simp only [putAll, preI, Nat.reduceLT, Nat.reduceAdd, decide_true, decide_false, Bool.false_eq_true, if_true, if_false, Act.put, List.setIfInBounds_toArray, List.set_cons_zero, List.set_cons_succ]
          go_simp
        · skip
          refine ⟨rfl, .inl ⟨.pointer (some ⟨g + 1, 1, none⟩), W, ?_, hI, rfl, trivial, fun j u h => h⟩⟩
          unfold lexA
          simp only [putAll, preI, Nat.reduceLT, Nat.reduceAdd, decide_true, decide_false, Bool.false_eq_true, if_true, if_false, Act.put, List.setIfInBounds_toArray, List.set_cons_zero, List.set_cons_succ]
          go_simp
        · have d3 : vs 3 = .pointer (some ⟨g + 1, 1, none⟩) := hdep ⟨3, .data⟩ (by simp) rfl
          have fx := hI.facts
          simp only [factsOf, cellsOf, Nat.zero_add, Nat.reduceAdd] at fx
          refine ⟨rfl, .inl ⟨.slice Av vl.length Cv, W, ?_, hI, rfl, trivial, fun j u h => h⟩⟩
          clear hI
          unfold lexA
          simp only [putAll, preI, Nat.reduceLT, Nat.reduceAdd, decide_true, decide_false, Bool.false_eq_true, if_true, if_false, Act.put, List.setIfInBounds_toArray, List.set_cons_zero, List.set_cons_succ]
          go_simp
        · have d4 : vs 4 = .slice Av vl.length Cv := hdep ⟨4, .data⟩ (by simp) rfl
          have d2 : W.ownsRow w.heap.size 25 3 (vs 2) ql.length (ql.flatMap encQ) ∧ _ := hdep ⟨2, .chain⟩ (by simp) rfl
          refine ⟨rfl, .inr ⟨_, _, ?_, (clone_rats W (.slice Av vl.length Cv) vl ((HSV.out.below hI.bel).more hI.bel.size) (by rw [HV1.out]; omega)).mono fun e W' ⟨v', he, ho, hb⟩ => ⟨v', he, hI.call hb, ⟨own_base2 ho hI.bel.size, own_slc ho⟩, (fun b h1 h2 => by have h3 := (d2.1.lt b h1).2; have h4 := (ho.lt b h2).1; omega), BrkF.below hb⟩⟩⟩
          unfold lexA
          simp only [putAll, preI, Nat.reduceLT, Nat.reduceAdd, decide_true, decide_false, Bool.false_eq_true, if_true, if_false, Act.put, List.setIfInBounds_toArray, List.set_cons_zero, List.set_cons_succ]
          go_simp
        · skip
          refine ⟨rfl, .inl ⟨.pointer (some ⟨g + 1, 2, none⟩), W, ?_, hI, rfl, trivial, fun j u h => h⟩⟩
          unfold lexA
          simp only [putAll, preI, Nat.reduceLT, Nat.reduceAdd, decide_true, decide_false, Bool.false_eq_true, if_true, if_false, Act.put, List.setIfInBounds_toArray, List.set_cons_zero, List.set_cons_succ]
          go_simp
        · have d6 : vs 6 = .pointer (some ⟨g + 1, 2, none⟩) := hdep ⟨6, .data⟩ (by simp) rfl
          have fx := hI.facts
          simp only [factsOf, cellsOf, Nat.zero_add, Nat.reduceAdd] at fx
          refine ⟨rfl, .inl ⟨.bool pw, W, ?_, hI, rfl, trivial, fun j u h => h⟩⟩
          clear hI
          unfold lexA
          simp only [putAll, preI, Nat.reduceLT, Nat.reduceAdd, decide_true, decide_false, Bool.false_eq_true, if_true, if_false, Act.put, List.setIfInBounds_toArray, List.set_cons_zero, List.set_cons_succ]
          go_simp
        · skip
          refine ⟨rfl, .inl ⟨.pointer (some ⟨g + 1, 3, none⟩), W, ?_, hI, rfl, trivial, fun j u h => h⟩⟩
          unfold lexA
          simp only [putAll, preI, Nat.reduceLT, Nat.reduceAdd, decide_true, decide_false, Bool.false_eq_true, if_true, if_false, Act.put, List.setIfInBounds_toArray, List.set_cons_zero, List.set_cons_succ]
          go_simp
        · have d8 : vs 8 = .pointer (some ⟨g + 1, 3, none⟩) := hdep ⟨8, .data⟩ (by simp) rfl
          have fx := hI.facts
          simp only [factsOf, cellsOf, Nat.zero_add, Nat.reduceAdd] at fx
          refine ⟨rfl, .inl ⟨.int .i64 hd, W, ?_, hI, rfl, trivial, fun j u h => h⟩⟩
          clear hI
          unfold lexA
          simp only [putAll, preI, Nat.reduceLT, Nat.reduceAdd, decide_true, decide_false, Bool.false_eq_true, if_true, if_false, Act.put, List.setIfInBounds_toArray, List.set_cons_zero, List.set_cons_succ]
          go_simp
        · obtain ⟨_, A1, n1, k1, d2⟩ : W.ownsRow w.heap.size 25 3 (vs 2) ql.length (ql.flatMap encQ) ∧ ∃ A n c, vs 2 = .slice A n c := hdep ⟨2, .data⟩ (by simp) rfl
          obtain ⟨_, A2, n2, k2, d5⟩ : W.ownsRow w.heap.size 25 3 (vs 5) vl.length (vl.flatMap encQ) ∧ ∃ A n c, vs 5 = .slice A n c := hdep ⟨5, .data⟩ (by simp) rfl
          have d7 : vs 7 = .bool pw := hdep ⟨7, .data⟩ (by simp) rfl
          have d9 : vs 9 = .int .i64 hd := hdep ⟨9, .data⟩ (by simp) rfl
          refine ⟨rfl, .inl ⟨.agg #[vs 2, vs 5, .bool pw, .int .i64 hd], W, ?_, hI, ⟨_, _, rfl⟩, rfl, fun j u h => h⟩⟩
          unfold lexA
          simp only [putAll, preI, Nat.reduceLT, Nat.reduceAdd, decide_true, decide_false, Bool.false_eq_true, if_true, if_false, Act.put, List.setIfInBounds_toArray, List.set_cons_zero, List.set_cons_succ]
          go_simp
        · skip
          refine ⟨rfl, .inl ⟨.pointer (some ⟨W.heap.size, 0, none⟩), W.alloc (.cells #[.slice none 0 0, .slice none 0 0, .bool false, .int .i64 0] 61), ?_, hI.skip _, ⟨W.heap.size, rfl, (by have h1 := hI.lt (k := 0) rfl; have h2 := HG.out; omega), Blk.new _ _ _⟩, trivial, BrkF.below ((Below.refl _ _).alloc (Nat.le_refl _) _)⟩⟩
          unfold lexA
          simp only [putAll, preI, Nat.reduceLT, Nat.reduceAdd, decide_true, decide_false, Bool.false_eq_true, if_true, if_false, Act.put, List.setIfInBounds_toArray, List.set_cons_zero, List.set_cons_succ]
          go_simp
      · intro vs W hI hF hR
        obtain ⟨ho1, _⟩ : W.ownsRow w.heap.size 25 3 (vs 2) ql.length (ql.flatMap encQ) ∧ _ := hF 2 (by decide)
        obtain ⟨ho2, _⟩ : W.ownsRow w.heap.size 25 3 (vs 5) vl.length (vl.flatMap encQ) ∧ _ := hF 5 (by decide)
        obtain ⟨b, d11, hbw, hbk⟩ : ∃ b, vs 11 = .pointer (some ⟨b, 0, none⟩) ∧ w.heap.size + 3 ≤ b ∧ Blk W b 61 #[.slice none 0 0, .slice none 0 0, .bool false, .int .i64 0] := hF 11 (by decide)
        have hap : ∀ b, (vs 2).ownBlock = some b → (vs 5).ownBlock ≠ some b := hR 5 (by decide)
        have d10 : vs 10 = .agg #[vs 2, vs 5, .bool pw, .int .i64 hd] := hR 10 (by decide)
        obtain ⟨g1, c1, e1, _, _, _⟩ := own_shape ho1 (by rw [HQ1.out]; omega)
        obtain ⟨g2, c2, e2, _, _, _⟩ := own_shape ho2 (by rw [HV1.out]; omega)
        rw [e1] at ho1 hap d10
        rw [e2] at ho2 hap d10
        have hap2 : g1 ≠ g2 := fun e => hap g1 rfl (by rw [e]; rfl)
        unfold lexA
        simp only [putAll, preI, Nat.reduceLT, Nat.reduceAdd, decide_true, decide_false, Bool.false_eq_true, if_true, if_false, Act.put, List.setIfInBounds_toArray, List.set_cons_zero, List.set_cons_succ, List.drop_succ_cons, List.drop_zero]
        rw [d10, d11]
        have hJ : In w ((b, 61, #[.slice none 0 0, .slice none 0 0, .bool false, .int .i64 0]) :: [(g + 1 + 1, 61, #[.slice none 0 0, .slice none 0 0, .bool false, .int .i64 0]), (g + 1, 61, #[.slice Aq ql.length Cq, .slice Av vl.length Cv, .bool pw, .int .i64 hd]), (g, 37, #[.string nm, .bool px.neg, .string px.num, .string px.den, .bool py.neg, .string py.num, .string py.den, .bool hf, .bool t.neg, .string t.num, .string t.den, .slice A L.length C])]) W := by
          have hgg := HG.out
          refine ⟨hI.bel, fun x hx => ?_, fun x hx => ?_, ?_⟩
          · rcases List.mem_cons.1 hx with rfl | hx
            · exact hbk
            · exact hI.blk x hx
          · rcases List.mem_cons.1 hx with rfl | hx
            · show w.heap.size ≤ b; omega
            · exact hI.new x hx
          · rw [List.map_cons]
            refine List.nodup_cons.2 ⟨fun hm => ?_, hI.apart⟩
            simp only [List.map_cons, List.map_nil, List.mem_cons, List.not_mem_nil, or_false] at hm
            omega
        have hS1 := hJ.take (a := [_])
        have fx := hS1.facts
        simp only [factsOf, cellsOf, Nat.zero_add, Nat.reduceAdd] at fx
        have hz := fun i => hS1.free (k := 0) (i := i) rfl
        have HX := Lib.hid (show BrkW w b g1 c1 g2 c2 [(g + 1 + 1, 61, #[.slice none 0 0, .slice none 0 0, .bool false, .int .i64 0]), (g + 1, 61, #[.slice Aq ql.length Cq, .slice Av vl.length Cv, .bool pw, .int .i64 hd]), (g, 37, #[.string nm, .bool px.neg, .string px.num, .string px.den, .bool py.neg, .string py.num, .string py.den, .bool hf, .bool t.neg, .string t.num, .string t.den, .slice A L.length C])] pw hd ql.length vl.length ql vl ((((W.setCell ⟨b, 0, none⟩ (.slice (some ⟨g1, 0, none⟩) ql.length c1)).setCell ⟨b, 1, none⟩ (.slice (some ⟨g2, 0, none⟩) vl.length c2)).setCell ⟨b, 2, none⟩ (.bool pw)).setCell ⟨b, 3, none⟩ (.int .i64 hd)) from by
          have hgr : W.grownBy ((((W.setCell ⟨b, 0, none⟩ (.slice (some ⟨g1, 0, none⟩) ql.length c1)).setCell ⟨b, 1, none⟩ (.slice (some ⟨g2, 0, none⟩) vl.length c2)).setCell ⟨b, 2, none⟩ (.bool pw)).setCell ⟨b, 3, none⟩ (.int .i64 hd)) (some b) := grown_trans2 (grown_trans2 (grown_trans2 (grown_set W b 0 _) (grown_set _ b 1 _)) (grown_set _ b 2 _)) (grown_set _ b 3 _)
          refine ⟨?_, ho1.kept hgr (.inr (fun e => ?_)), ho2.kept hgr (.inr (fun e => ?_)), hap2⟩
          · have k1 := hJ.set (a := []) 0 (.slice (some ⟨g1, 0, none⟩) ql.length c1)
            simp only [List.nil_append, List.setIfInBounds_toArray, List.set_cons_zero] at k1
            have k2 := k1.set (a := []) 1 (.slice (some ⟨g2, 0, none⟩) vl.length c2)
            simp only [List.nil_append, List.setIfInBounds_toArray, List.set_cons_zero, List.set_cons_succ] at k2
            have k3 := k2.set (a := []) 2 (.bool pw)
            simp only [List.nil_append, List.setIfInBounds_toArray, List.set_cons_zero, List.set_cons_succ] at k3
            have k4 := k3.set (a := []) 3 (.int .i64 hd)
            simp only [List.nil_append, List.setIfInBounds_toArray, List.set_cons_zero, List.set_cons_succ] at k4
            exact k4
          · exact absurd (own_type ho1 (Option.some.inj e ▸ rfl) hbk) (by decide)
          · exact absurd (own_type ho2 (Option.some.inj e ▸ rfl) hbk) (by decide))
        clear hS1 hJ hI hF hR ho1 ho2 hap hbk d10 d11
        go_wp2_with fail
        go_meet
        exact ⟨b, g1, c1, g2, c2, rfl, HX.out⟩
    case rest =>
      clear hI
      obtain ⟨b, g1, c1, g2, c2, rfl, hBW⟩ := hcut
      have HNR := Lib.hid (show NoRat [(g + 1 + 1, 61, #[.slice none 0 0, .slice none 0 0, .bool false, .int .i64 0]), (g + 1, 61, #[.slice Aq ql.length Cq, .slice Av vl.length Cv, .bool pw, .int .i64 hd]), (g, 37, #[.string nm, .bool px.neg, .string px.num, .string px.den, .bool py.neg, .string py.num, .string py.den, .bool hf, .bool t.neg, .string t.num, .string t.den, .slice A L.length C])] from fun x hx => by
        simp only [List.mem_cons, List.not_mem_nil, or_false] at hx
        rcases hx with rfl | rfl | rfl
        · exact (by decide : (61 : Nat) ≠ 25)
        · exact (by decide : (61 : Nat) ≠ 25)
        · exact (by decide : (37 : Nat) ≠ 25))
      have hst := Lib.hid (show BkRel w N b g1 c1 g2 c2 [(g + 1 + 1, 61, #[.slice none 0 0, .slice none 0 0, .bool false, .int .i64 0]), (g + 1, 61, #[.slice Aq ql.length Cq, .slice Av vl.length Cv, .bool pw, .int .i64 hd]), (g, 37, #[.string nm, .bool px.neg, .string px.num, .string px.den, .bool py.neg, .string py.num, .string py.den, .bool hf, .bool t.neg, .string t.num, .string t.den, .slice A L.length C])] pw hd L ql vl (.int .i64 0) wc from ⟨0, ql, vl, rfl, Nat.zero_le _, BrkTo.start, hBW⟩)
      have hI := hBW.1
      have fx := hI.facts
      simp only [factsOf, cellsOf, Nat.zero_add, Nat.reduceAdd] at fx
      clear hI hBW
      go_wp2_with fail
      clear fx
      go_loopw [34] (fun i wr => BkRel w N b g1 c1 g2 c2 [(g + 1 + 1, 61, #[.slice none 0 0, .slice none 0 0, .bool false, .int .i64 0]), (g + 1, 61, #[.slice Aq ql.length Cq, .slice Av vl.length Cv, .bool pw, .int .i64 hd]), (g, 37, #[.string nm, .bool px.neg, .string px.num, .string px.den, .bool py.neg, .string py.num, .string py.den, .bool hf, .bool t.neg, .string t.num, .string t.den, .slice A L.length C])] pw hd L ql vl i wr) (fun i _ => L.length - (intOf i).toNat)
      case atStart => exact hst.out
      case round =>
        as_aux_lemma =>
        clear hst
        obtain ⟨k, qs, vs, rfl, hk, hto, hBW⟩ := hrel
        by_cases hin : k < L.length
        · obtain ⟨wq, rfl⟩ : ∃ wq, wq = wr := ⟨_, rfl⟩
          have hi1 : (k : Int) < (L.length : Int) := by omega
          have hi2 : 0 ≤ (k : Int) ∧ (k : Int) < (L.length : Int) := by omega
          have hi3 : 0 ≤ (k : Int) ∧ (k : Int) < (ql.length : Int) := by rw [HQ1.out]; exact hi2
          have hi4 : 0 ≤ (k : Int) ∧ (k : Int) < (vl.length : Int) := by rw [HV1.out]; exact hi2
          have hkq : k < qs.length := by rw [hto.1, HQ1.out]; exact hin
          have hkv : k < vs.length := by rw [hto.2.1, HV1.out]; exact hin
          have hbw := hBW.1.bel
          have HT2 := Lib.hid (tabs w HT.out hbw)
          obtain ⟨⟨⟨klen, klow, khigh, kspeed, kbrake, kshape⟩, pts⟩, ha⟩ : ∃ x, L[k]? = some x := ⟨_, List.getElem?_eq_getElem hin⟩
          obtain ⟨q, hq⟩ : ∃ q, ql[k]? = some q := ⟨_, List.getElem?_eq_getElem (by rw [HQ1.out]; exact hin)⟩
          obtain ⟨v, hv⟩ : ∃ q, vl[k]? = some q := ⟨_, List.getElem?_eq_getElem (by rw [HV1.out]; exact hin)⟩
          obtain ⟨y, hy⟩ : ∃ y, vs[k]? = some y := ⟨_, List.getElem?_eq_getElem hkv⟩
          obtain ⟨z, hz⟩ : ∃ z, qs[k]? = some z := ⟨_, List.getElem?_eq_getElem hkq⟩
          obtain ⟨A5, n5, c5, hk5, _⟩ := HSH.out _ (List.mem_of_getElem? ha)
          obtain rfl : kshape = .slice A5 n5 c5 := hk5
          obtain ⟨b9, o, hAe, hbB, hlc⟩ := Rd.lnk HRD.out (i := k) (k := ⟨klen, klow, khigh, kspeed, kbrake, .slice A5 n5 c5⟩) (by
            show (L.map (·.1))[k]? = _
            rw [HKS.out, ha]; rfl)
          have hlc := hlc.below hbw hbB
          have hbn : b9 < wq.heap.size := Nat.lt_of_lt_of_le hbB hbw.size
          obtain ⟨f0, f1, f2, f3, f4, f5, f6, f7, f8, f9, f10, f11, f12, f13, f14, f15⟩ := hlc
          obtain ⟨bq, oq, hAq, hbq, e0, e1, e2⟩ := Rd.quot HRQ.out hq
          obtain ⟨bv, ov, hAv, hbv, d0, d1, d2⟩ := Rd.quot HRV.out hv
          subst hAe hAq hAv
          have hb1 := hBW.1.cell (k := 0) (i := 1) rfl rfl
          have hs1 := hBW.1.cell (k := 2) (i := 1) rfl rfl
          have hbl := hBW.1.lt (k := 0) rfl
          have hsl := hBW.1.lt (k := 2) rfl
          have hg2l := (hBW.2.2.1.lt g2 rfl).2
          have EV := Lib.hid (fun W (hW : Below wq.heap.size wq W) => (⟨(hW.cell (p := ⟨b, 1, none⟩) hbl).trans hb1, (hW.cell (p := ⟨g + 1, 1, none⟩) hsl).trans hs1, (hW.cell (p := ⟨bv, ov + k * 3, none⟩) (Nat.lt_of_lt_of_le hbv hbw.size)).trans ((hbw.cell (p := ⟨bv, ov + k * 3, none⟩) hbv).trans d0), (hW.cell (p := ⟨bv, ov + k * 3 + 1, none⟩) (Nat.lt_of_lt_of_le hbv hbw.size)).trans ((hbw.cell (p := ⟨bv, ov + k * 3 + 1, none⟩) hbv).trans d1), (hW.cell (p := ⟨bv, ov + k * 3 + 2, none⟩) (Nat.lt_of_lt_of_le hbv hbw.size)).trans ((hbw.cell (p := ⟨bv, ov + k * 3 + 2, none⟩) hbv).trans d2)⟩ : And _ (And _ (And _ (And _ _)))))
          have lb : kbrake.le N := (HKL.out _ (List.mem_of_getElem? ha)).1.2.2.2.2
          have lq := HLQ.out q (List.mem_of_getElem? hq)
          have lv := HLV.out v (List.mem_of_getElem? hv)
          obtain ⟨v', qv, cv, lv', SL⟩ := slowerR wq HT2.out kbrake v lv lb
          obtain ⟨q', qq, cq, lq', _⟩ := addR wq HT2.out q v' lq lv'
          have HAD := Lib.hid (fun W hW => addR W (tabs w HT.out hW) q v' lq lv')
          have hwk : IntKind.i64.wrap ((k : Int) + 1) = (k : Int) + 1 := by rw [IntKind.wrap_i64]; omega
          have HTO := Lib.hid (hto.step ha hq hv (show BrkAt N ⟨klen, klow, khigh, kspeed, kbrake, .slice A5 n5 c5⟩ q v q' v' from ⟨qv, qq, cv, cq, lv', lq'⟩))
          have HBW := Lib.hid hBW
          have HY := Lib.hid hy
          have HZ := Lib.hid hz
          have HEQ := Lib.hid (And.intro hbq (And.intro e0 (And.intro e1 e2)))
          have hI := (In.start wq).alloc 28 #[.bool klen.neg, .string klen.num, .string klen.den, .bool klow.neg, .string klow.num, .string klow.den, .bool khigh.neg, .string khigh.num, .string khigh.den, .bool kspeed.neg, .string kspeed.num, .string kspeed.den, .bool kbrake.neg, .string kbrake.num, .string kbrake.den, .slice A5 n5 c5]
          obtain ⟨g9, hg9⟩ : ∃ g, g = wq.heap.size := ⟨_, rfl⟩
          clear hto hBW ha hq hv hy hz e0 e1 e2 d0 d1 d2 hb1 hs1 hbl hsl hg2l qv lv hbq hbv
          go_upto_region 8 with (fail)
          clear f0 f1 f2 f3 f4 f5 f6 f7 f8 f9 f10 f11 f12 f13 f14 f15 hbn hbB
          rw [← hg9] at hI ⊢
          generalize World.alloc _ _ = W2 at hI ⊢
          clear hg9
          refine wp_region_in_tail 12 hI (by kernel_rfl) (by kernel_rfl) ?_
          simp only [List.take_succ_cons, List.take_zero, List.drop_succ_cons, List.drop_zero]
          repeat (first
            | (refine wpSeq_off (by rfl) ?_; try simp only [Act.put, List.setIfInBounds_toArray, List.set_cons_zero, List.set_cons_succ])
            | (refine wpSeq_val (v := ?_) (by rfl) (fun W hS => ?_) ?_
               rotate_left
               · (have fx := hS.facts; simp only [factsOf, cellsOf, Nat.zero_add, Nat.reduceAdd] at fx; have fy0 := EV.out W hS.bel; clear hS; go_simp; first | done | with_reducible rfl)
               try simp only [Act.put, List.setIfInBounds_toArray, List.set_cons_zero, List.set_cons_succ]))
          refine wpSeq_call (v := .agg #[.bool v'.neg, .string v'.num, .string v'.den]) (by rfl) (fun W hS => ?_) (fun W hS => (SL.out W hS.bel)) ?_
          · (clear hS; go_simp; done)
          try simp only [Act.put, List.setIfInBounds_toArray, List.set_cons_zero, List.set_cons_succ]
          repeat (first
            | (refine wpSeq_off (by rfl) ?_; try simp only [Act.put, List.setIfInBounds_toArray, List.set_cons_zero, List.set_cons_succ])
            | (refine wpSeq_val (v := ?_) (by rfl) (fun W hS => ?_) ?_
               rotate_left
               · (have fx := hS.facts; simp only [factsOf, cellsOf, Nat.zero_add, Nat.reduceAdd] at fx; clear hS; go_simp; first | done | with_reducible rfl)
               try simp only [Act.put, List.setIfInBounds_toArray, List.set_cons_zero, List.set_cons_succ]))
          refine wpSeq_nil (fun W hS => ?_)
          have hB8 := HBW.out.call hS.bel
          have hc8 := own_cells hB8.2.2.1 HY.out
          have hz8 := fun j => hB8.2.2.1.frozenAt j
          have HX := Lib.hid (hB8.setV HNR.out hkv v')
          clear hS hB8 hI SL EV HBW
          go_upto_region 9 with (fail)
          have hBW := HX.out
          clear HX hc8 hz8
          generalize World.setCell _ _ _ = W8 at hBW ⊢
          have hbw8 := hBW.1.bel
          obtain ⟨q2, qq2, cq2, lq2, AD⟩ := HAD.out W8 hbw8
          obtain rfl : q2 = q' := cq2.eq cq (by rw [qq2, qq])
          have hb0 := hBW.1.cell (k := 0) (i := 0) rfl rfl
          have hb1 := hBW.1.cell (k := 0) (i := 1) rfl rfl
          have hs0 := hBW.1.cell (k := 2) (i := 0) rfl rfl
          have hbl := hBW.1.lt (k := 0) rfl
          have hsl := hBW.1.lt (k := 2) rfl
          have hg2l := (hBW.2.2.1.lt g2 rfl).2
          have hv8 := own_cells hBW.2.2.1 (show (vs.set k v')[k]? = some v' by rw [List.getElem?_set, if_pos rfl, if_pos hkv])
          obtain ⟨hbq, e0, e1, e2⟩ := HEQ.out
          have EQ := Lib.hid (fun W (hW : Below W8.heap.size W8 W) => (⟨(hW.cell (p := ⟨b, 0, none⟩) hbl).trans hb0, (hW.cell (p := ⟨b, 1, none⟩) hbl).trans hb1, (hW.cell (p := ⟨g + 1, 0, none⟩) hsl).trans hs0,
            (hW.cell (p := ⟨bq, oq + k * 3, none⟩) (Nat.lt_of_lt_of_le hbq hbw8.size)).trans ((hbw8.cell (p := ⟨bq, oq + k * 3, none⟩) hbq).trans e0), (hW.cell (p := ⟨bq, oq + k * 3 + 1, none⟩) (Nat.lt_of_lt_of_le hbq hbw8.size)).trans ((hbw8.cell (p := ⟨bq, oq + k * 3 + 1, none⟩) hbq).trans e1), (hW.cell (p := ⟨bq, oq + k * 3 + 2, none⟩) (Nat.lt_of_lt_of_le hbq hbw8.size)).trans ((hbw8.cell (p := ⟨bq, oq + k * 3 + 2, none⟩) hbq).trans e2),
            (hW.cell (p := ⟨g2, k * 3, none⟩) hg2l).trans hv8.1, (hW.cell (p := ⟨g2, k * 3 + 1, none⟩) hg2l).trans hv8.2.1, (hW.cell (p := ⟨g2, k * 3 + 2, none⟩) hg2l).trans hv8.2.2⟩ : And _ (And _ (And _ (And _ (And _ (And _ (And _ (And _ _)))))))))
          have HBW := Lib.hid hBW
          have hI := In.start W8
          clear hBW hb0 hb1 hs0 hbl hsl hg2l hv8 hbq e0 e1 e2 hbw8 HAD qq qq2 cq2 lq2 lq' cq lq
          refine wp_region_in_tail 15 hI (by kernel_rfl) (by kernel_rfl) ?_
          simp only [List.take_succ_cons, List.take_zero, List.drop_succ_cons, List.drop_zero]
          repeat (first
            | (refine wpSeq_off (by rfl) ?_; try simp only [Act.put, List.setIfInBounds_toArray, List.set_cons_zero, List.set_cons_succ])
            | (refine wpSeq_val (v := ?_) (by rfl) (fun W hS => ?_) ?_
               rotate_left
               · (have fy0 := EQ.out W hS.bel; clear hS; go_simp; first | done | with_reducible rfl)
               try simp only [Act.put, List.setIfInBounds_toArray, List.set_cons_zero, List.set_cons_succ]))
          refine wpSeq_call (v := .agg #[.bool q2.neg, .string q2.num, .string q2.den]) (by rfl) (fun W hS => ?_) (fun W hS => (AD.out W hS.bel)) ?_
          · (clear hS; go_simp; done)
          try simp only [Act.put, List.setIfInBounds_toArray, List.set_cons_zero, List.set_cons_succ]
          repeat (first
            | (refine wpSeq_off (by rfl) ?_; try simp only [Act.put, List.setIfInBounds_toArray, List.set_cons_zero, List.set_cons_succ])
            | (refine wpSeq_val (v := ?_) (by rfl) (fun W hS => ?_) ?_
               rotate_left
               · (have fy0 := EQ.out W hS.bel; clear hS; go_simp; first | done | with_reducible rfl)
               try simp only [Act.put, List.setIfInBounds_toArray, List.set_cons_zero, List.set_cons_succ]))
          refine wpSeq_nil (fun W hS => ?_)
          have hB9 := HBW.out.call hS.bel
          have hc9 := own_cells hB9.2.1 HZ.out
          have hz9 := fun j => hB9.2.1.frozenAt j
          have HX := Lib.hid (hB9.setQ HNR.out hkq q2)
          clear hS hB9 hI AD EQ HBW
          go_upto_region 10 with (fail)
          have hBW := HX.out
          clear HX hc9 hz9
          generalize World.setCell _ _ _ = W9 at hBW ⊢
          have HX := Lib.hid (show BkRel w N b g1 c1 g2 c2 _ pw hd L ql vl (.int .i64 ((k : Int) + 1)) W9 from ⟨k + 1, _, _, by simp, hin, HTO.out, hBW⟩)
          clear hBW
          go_wp2_with fail
          go_roundw
          case rel => exact HX.out
          case measure => simp [intOf]; omega
        · obtain rfl : k = L.length := by omega
          have hi1 : ¬ (L.length : Int) < (L.length : Int) := by omega
          obtain ⟨hI, ho1, ho2, _⟩ := hBW
          have hT := hI.take (a := [_, _])
          have fx := hT.facts
          simp only [factsOf, cellsOf, Nat.zero_add, Nat.reduceAdd] at fx
          have hz := fun i => hT.free (k := 1) (i := i) rfl
          have HK := Lib.hid (hI.all4 (a := [_]) (.slice (some ⟨g1, 0, none⟩) ql.length c1) (.slice (some ⟨g2, 0, none⟩) vl.length c2) (.bool pw) (.int .i64 hd))
          have hbk := hI.blkAt (k := 1) rfl
          have hgr := grown4 wr (g + 1 + 1) (.slice (some ⟨g1, 0, none⟩) ql.length c1) (.slice (some ⟨g2, 0, none⟩) vl.length c2) (.bool pw) (.int .i64 hd)
          have HO1 := Lib.hid (ho1.kept hgr (.inr (fun e => absurd (own_type ho1 e hbk) (by decide))))
          have HO2 := Lib.hid (ho2.kept hgr (.inr (fun e => absurd (own_type ho2 e hbk) (by decide))))
          have HTO := Lib.hid hto
          clear hT hI ho1 ho2 hbk hgr hto
          go_wp2_with fail
          clear fx hz
          have hK := HK.out
          have hO1 := HO1.out
          have hO2 := HO2.out
          clear HK HO1 HO2
          generalize World.setCell _ _ _ = W9 at hK hO1 hO2 ⊢
          refine bodyPost_ret (results_cell_two Tryd.results37 _ _ (g + 1 + 1) 61 _ (0, 0) _ _ rfl rfl (hK.blkAt (k := 1) rfl) Tryd.underlying61 rfl (by kernel_rfl)) rfl ?_
          exact HP2.out _ _ qs vs W9 HC.out (SlQ.own hO1) (SlQ.own hO2) HTO.out hK.bel
  · have h01 : (c == 0) = false := by simpa using h0
    have h02 : (c != 0) = true := by simpa using h0
    have HX := Lib.hid (fun W => HP1.out c W hc h0)
    clear hc
    have hS0 := hI.take (a := [_])
    have HK := Lib.hid (hI.all4 (a := []) (.slice none 0 0) (.slice none 0 0) (.bool false) (.int .i64 0))
    have fx := hS0.facts
    simp only [factsOf, cellsOf, Nat.zero_add, Nat.reduceAdd] at fx
    have hz := fun i => hS0.free (k := 0) (i := i) rfl
    clear hS0 hI
    go_wp2_with fail
    clear fx hz
    have hK := HK.out
    clear HK
    generalize World.setCell _ _ _ = W9 at hK ⊢
    refine bodyPost_ret (results_cell_two Tryd.results37 _ _ (g + 1 + 1) 61 _ (0, 0) _ _ rfl rfl (hK.blkAt (k := 0) rfl) Tryd.underlying61 rfl (by kernel_rfl)) rfl ?_
    exact HX.out _ hK.bel
end Go.Proofs.YtnnbnecpcppkdaaDoor
