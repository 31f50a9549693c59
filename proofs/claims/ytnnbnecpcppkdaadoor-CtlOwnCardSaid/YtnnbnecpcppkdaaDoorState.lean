/- gantkeep5.state. Conditions: those typed. -/
import Derived.Test.YtnnbnecpcppkdaaDoorConfX
import Derived.Test.YtnnbnecpcppkdaaDoorBrkX
import Derived.Test.YtnnbnecpcppkdaaDoorCtlBase
namespace Go.Proofs.YtnnbnecpcppkdaaDoor
open Go.RowKit Go.Gy
set_option linter.unusedVariables false
/-- changes up to the speeds -/
def VAt (k : Lk) (v : Q3) : Prop := v.can ∧ v.le 20 ∧ absQ v.q ≤ k.speed.q
def VsIn (L : List (Lk × List P2)) (vs : List Q3) : Prop := vs.length ≤ L.length ∧ ∀ (j : Nat) (v : Q3) (x : Lk × List P2), vs[j]? = some v → L[j]? = some x → VAt x.1 v
theorem VsIn.snoc {L : List (Lk × List P2)} {qs : List Q3} {q : Q3} {x : Lk × List P2} (h : VsIn L qs) (hx : L[qs.length]? = some x) (hq : VAt x.1 q) : VsIn L (qs ++ [q]) := by
  refine ⟨by have := (List.getElem?_eq_some_iff.1 hx).1; simp; omega, fun j p y h1 h2 => ?_⟩
  rcases Nat.lt_or_ge j qs.length with hj | hj
  · rw [List.getElem?_append_left hj] at h1
    exact h.2 j p y h1 h2
  · rw [List.getElem?_append_right hj] at h1
    have hj0 : j - qs.length = 0 := by
      have := (List.getElem?_eq_some_iff.1 h1).1
      simp at this
      omega
    rw [hj0] at h1
    simp at h1
    subst h1
    rw [show j = qs.length by omega, hx] at h2
    cases h2
    exact hq
theorem v_at {sp z : Rat} {m : Int} (hs : 0 < sp) (hm : -8 ≤ m ∧ m ≤ 8) (hz : z = (m : Rat) / ((8 : Int) : Rat)) : absQ (sp * z) ≤ sp := by
  have e8 : ((8 : Int) : Rat) = 8 := rfl
  have h1 : z * 8 = (m : Rat) := by
    rw [hz, e8]
    exact Rat.div_mul_cancel (by decide +kernel)
  have h2 : (m : Rat) ≤ ((8 : Int) : Rat) := Rat.intCast_le_intCast.mpr hm.2
  have h3 : ((-8 : Int) : Rat) ≤ (m : Rat) := Rat.intCast_le_intCast.mpr hm.1
  have e9 : ((-8 : Int) : Rat) = -8 := rfl
  rw [e8] at h2
  rw [e9] at h3
  have z1 : z ≤ 1 := by grind
  have z2 : -1 ≤ z := by grind
  have k1 := Rat.mul_le_mul_of_nonneg_left z1 (Rat.le_of_lt hs)
  have k2 := Rat.mul_le_mul_of_nonneg_left z2 (Rat.le_of_lt hs)
  unfold absQ
  split <;> grind
def StateMk (w : World) (L : List (Lk × List P2)) (e : Ending) (w' : World) : Prop := ∃ (vq vv : Value) (qs vs : List Q3), e = .returned (.agg #[vq, vv, .bool true, .int .i64 (-1)]) ∧ qs.length = L.length ∧ QsIn L qs ∧ vs.length = L.length ∧ VsIn L vs ∧ SlQ w' w'.heap.size vq qs ∧ SlQ w' w'.heap.size vv vs ∧ Below w.heap.size w w'
/-- and the row of joint values is new -/
def StateMk2 (w : World) (L : List (Lk × List P2)) (e : Ending) (w' : World) : Prop := ∃ (vq vv : Value) (qs vs : List Q3), e = .returned (.agg #[vq, vv, .bool true, .int .i64 (-1)]) ∧ qs.length = L.length ∧ QsIn L qs ∧ vs.length = L.length ∧ VsIn L vs ∧ SlQ w' w'.heap.size vq qs ∧ SlQ w' w'.heap.size vv vs ∧ Below w.heap.size w w' ∧ ∃ b n c : Nat, vq = .slice (some ⟨b, 0, none⟩) n c ∧ w.heap.size ≤ b
def StaRel (w : World) (g5 : Nat) (R : List (Nat × TypeId × Array Value)) (bq nq Cq : Nat) (cur : Array Value) (L : List (Lk × List P2)) (i : Value) (wr : World) : Prop :=
  ∃ (vs : List Q3) (vv : Value), i = .int .i64 vs.length ∧ VsIn L vs ∧ In w ((g5, 61, #[.slice (some ⟨bq, 0, none⟩) nq Cq, vv, .bool true, .int .i64 (-1)]) :: R) wr ∧ wr.ownsRow (g5 + 1) 25 3 vv vs.length (vs.flatMap encQ) ∧ Blk wr bq 25 cur ∧ bq < g5 ∧ g5 < wr.heap.size
/-- what the operations ahead of the append yield -/
def StaF (b g7 g9 : Nat) (vv : Value) (sp z v : Q3) (i : Nat) (u : Value) (W : World) : Prop :=
  match i with
  | 0 => u = .pointer (some ⟨b, 1, none⟩)
  | 1 => u = vv
  | 2 => u = .pointer (some ⟨g7, 9, none⟩)
  | 3 => u = .agg #[.bool sp.neg, .string sp.num, .string sp.den]
  | 4 => u = .agg #[.bool z.neg, .string z.num, .string z.den]
  | 5 => u = .agg #[.bool v.neg, .string v.num, .string v.den]
  | 6 => ∃ gL, u = .slice (some ⟨gL, 0, none⟩) 1 1 ∧ Blk W gL 25 #[.bool v.neg, .string v.num, .string v.den]
  | _ => True
theorem StaF.below {b g7 g9 : Nat} {vv : Value} {sp z v : Q3} {W W' : World} (hb : Below W.heap.size W W') : ∀ j u, StaF b g7 g9 vv sp z v j u W → StaF b g7 g9 vv sp z v j u W' := by
  intro j u hF
  rcases j with _ | _ | _ | _ | _ | _ | _ | j
  all_goals try exact hF
  obtain ⟨gL, h1, h2⟩ := hF
  exact ⟨gL, h1, h2.below hb h2.lt⟩
set_option maxRecDepth 100000 in
set_option maxHeartbeats 8000000 in
theorem state_own (w : World) (hT : TabW w) (a : Ar) (hG : GenAr a) (hA : a.At w w.heap.size) (va : Value) (r : List Int) (hv : SlI w w.heap.size va r) (hr : r.length ≤ 140737488355328) (hri : ∀ x ∈ r, InI x) :
    Calls Tryd.prog 34 #[a.val, va] w (StateMk2 w a.L) := by
  have HT := Lib.hid hT
  have HCF := Lib.hid (fun W (hW : Below w.heap.size w W) => confMake W a hG (hA.up hW) va r ((hv.below hW).more hW.size) hr)
  obtain ⟨Ai, ni, ci, rfl, hni, _, _, hri2⟩ := hv
  subst hni
  have HRI := Lib.hid hri2
  have HII := Lib.hid hri
  obtain ⟨ar, har⟩ : ∃ ar, ar = a := ⟨_, rfl⟩
  have HG := Lib.hid hG
  rw [← har] at HCF ⊢
  obtain ⟨nm, ⟨px, py⟩, hf, t, va, L⟩ := a
  obtain ⟨⟨A, n9, C, hva, hNL, _, _, hrd⟩, hshp⟩ := hA
  obtain rfl : va = .slice A n9 C := hva
  obtain rfl : L.length = n9 := (Ar.ks_len ⟨nm, ⟨px, py⟩, hf, t, .slice A n9 C, L⟩).symm.trans hNL
  have hval : ar.val = .agg #[.string nm, .bool px.neg, .string px.num, .string px.den, .bool py.neg, .string py.num, .string py.den, .bool hf, .bool t.neg, .string t.num, .string t.den, .slice A L.length C] := by rw [har]; rfl
  have hLL : ar.L = L := by rw [har]
  rw [hval, hLL] at HCF ⊢
  have HRD := Lib.hid hrd
  have HSH := Lib.hid (show ∀ x ∈ L, SlP w w.heap.size x.1.shape x.2 from hshp)
  have HGL := Lib.hid (show ∀ x ∈ L, GenLk x.1 x.2 from HG.out.lk)
  have hL3 : L.length ≤ 3 := HG.out.len.2
  have hL1 : 1 ≤ L.length := HG.out.len.1
  have HKS := Lib.hid (show ∀ i : Nat, (L.map (·.1))[i]? = (L[i]?).map (·.1) from fun i => List.getElem?_map)
  have hI := ((In.start w).alloc 37 #[.string nm, .bool px.neg, .string px.num, .string px.den, .bool py.neg, .string py.num, .string py.den, .bool hf, .bool t.neg, .string t.num, .string t.den, .slice A L.length C]).alloc 61 #[.slice none 0 0, .slice none 0 0, .bool false, .int .i64 0]
  rw [World.size_alloc] at hI
  obtain ⟨i0, hi0, hi1⟩ := Option.map_eq_some_iff.1 info_rat
  injection hi1 with hz0 hi1
  injection hi1 with hz1 hz2
  clear hri2 hri hT hval hLL har hrd hshp hNL hG hr HG
  go_enter Tryd.func34, Tryd.ntmps34
  go_upto_region 1 with (fail)
  obtain ⟨g, hg⟩ : ∃ g, g = w.heap.size := ⟨_, rfl⟩
  rw [← hg] at hI ⊢
  clear hg
  generalize World.alloc _ _ = W1 at hI ⊢
  have fx := hI.facts
  simp only [factsOf, cellsOf, Nat.zero_add, Nat.reduceAdd] at fx
  go_wp2_with fail
  refine (HCF.out _ hI.bel).mono ?_
  rintro e wn ⟨vq, qs, lo, rfl, hql, hqs, hlo, hown, hb⟩
  obtain ⟨hol, ⟨_, ho0⟩ | ⟨bq, Cq, cur, rfl, hbq, hoh, hoc, _, hos, hot⟩⟩ := hown
  · exfalso; omega
  have HLO := Lib.hid (show w.heap.size ≤ bq from Nat.le_trans hI.bel.size (Nat.le_trans hlo hbq))
  have hbk0 : Blk wn bq 25 cur := hoh
  have HSQ := Lib.hid (And.intro hbk0 hbk0.lt)
  have HCU := Lib.hid (And.intro hot hoc)
  have HQL := Lib.hid hql
  have HQS := Lib.hid hqs
  have hIc := hI.call hb
  have HGG := Lib.hid (show g + 1 < wn.heap.size ∧ w.heap.size ≤ wn.heap.size from ⟨hIc.lt (k := 0) rfl, hIc.bel.size⟩)
  clear hIc
  replace hI := (hI.call hb).alloc 61 #[.slice (some ⟨bq, 0, none⟩) qs.length Cq, .slice none 0 0, .bool true, .int .i64 (-1)]
  clear hb fx HCF hol hoh hoc hos hot hbk0 hql hqs hlo hbq
  obtain ⟨g5, hg5⟩ : ∃ g, g = wn.heap.size := ⟨_, rfl⟩
  go_upto_region 2 with (fail)
  rw [← hg5] at hI HSQ HGG ⊢
  have HSQ2 := Lib.hid (And.intro (HSQ.out.1.alloc (.cells #[.slice (some ⟨bq, 0, none⟩) qs.length Cq, .slice none 0 0, .bool true, .int .i64 (-1)] 61)) HSQ.out.2)
  have hlt := hI.lt (k := 0) rfl
  clear hg5 HSQ
  generalize World.alloc _ _ = W2 at hI HSQ2 hlt ⊢
  have hst := Lib.hid (show StaRel w g5 [(g + 1, 61, #[.slice none 0 0, .slice none 0 0, .bool false, .int .i64 0]), (g, 37, #[.string nm, .bool px.neg, .string px.num, .string px.den, .bool py.neg, .string py.num, .string py.den, .bool hf, .bool t.neg, .string t.num, .string t.den, .slice A L.length C])] bq qs.length Cq cur L (.int .i64 0) W2 from ⟨[], _, rfl, ⟨Nat.zero_le _, fun j v x h => by simp at h⟩, hI, ⟨rfl, .inl ⟨rfl, rfl⟩⟩, HSQ2.out.1, HSQ2.out.2, hlt⟩)
  have fx := hI.facts
  simp only [factsOf, cellsOf, Nat.zero_add, Nat.reduceAdd] at fx
  clear hI HSQ2 hlt
  go_wp2_with fail
  clear fx
  go_loopw [18] (fun i wr => StaRel w g5 [(g + 1, 61, #[.slice none 0 0, .slice none 0 0, .bool false, .int .i64 0]), (g, 37, #[.string nm, .bool px.neg, .string px.num, .string px.den, .bool py.neg, .string py.num, .string py.den, .bool hf, .bool t.neg, .string t.num, .string t.den, .slice A L.length C])] bq qs.length Cq cur L i wr) (fun i _ => L.length - (intOf i).toNat)
  case atStart => exact hst.out
  case round =>
    as_aux_lemma =>
    clear hst
    obtain ⟨vs, vv, rfl, hvs, hI, hown, hsq, hbq5, hg5l⟩ := hrel
    by_cases hin : vs.length < L.length
    · obtain ⟨wq, rfl⟩ : ∃ wq, wq = wr := ⟨_, rfl⟩
      have hi1 : (vs.length : Int) < (L.length : Int) := by omega
      have hi2 : 0 ≤ (vs.length : Int) ∧ (vs.length : Int) < (L.length : Int) := by omega
      have hbw := hI.bel
      have HT2 := Lib.hid (tabs w HT.out hbw)
      obtain ⟨⟨⟨klen, klow, khigh, kspeed, kbrake, kshape⟩, pts⟩, ha⟩ : ∃ x, L[vs.length]? = some x := ⟨_, List.getElem?_eq_getElem hin⟩
      obtain ⟨A5, n5, c5, hk5, _⟩ := HSH.out _ (List.mem_of_getElem? ha)
      obtain rfl : kshape = .slice A5 n5 c5 := hk5
      obtain ⟨b9, o, hAe, hbB, hlc⟩ := Rd.lnk HRD.out (i := vs.length) (k := ⟨klen, klow, khigh, kspeed, kbrake, .slice A5 n5 c5⟩) (by
        show (L.map (·.1))[vs.length]? = _
        rw [HKS.out, ha]; rfl)
      have hlc := hlc.below hbw hbB
      have hbn : b9 < wq.heap.size := Nat.lt_of_lt_of_le hbB hbw.size
      obtain ⟨f0, f1, f2, f3, f4, f5, f6, f7, f8, f9, f10, f11, f12, f13, f14, f15⟩ := hlc
      subst hAe
      have hgk : GenLk ⟨klen, klow, khigh, kspeed, kbrake, .slice A5 n5 c5⟩ pts := HGL.out _ (List.mem_of_getElem? ha)
      have ls : kspeed.le 1 := hgk.le.1.2.2.2.1
      have hsp : 0 < kspeed.q := (hgk.ok.zero rfl).1.2.2.2.1
      have hb1 := hI.cell (k := 0) (i := 1) rfl rfl
      have EB := Lib.hid (fun W (hW : Below wq.heap.size wq W) => (hW.cell (p := ⟨g5, 1, none⟩) hg5l).trans hb1)
      have HI0 := Lib.hid hI
      have HOWN := Lib.hid hown
      have HSQ := Lib.hid hsq
      have HVS := Lib.hid hvs
      have HA := Lib.hid ha
      have hJ := (In.start wq).alloc 28 #[.bool klen.neg, .string klen.num, .string klen.den, .bool klow.neg, .string klow.num, .string klow.den, .bool khigh.neg, .string khigh.num, .string khigh.den, .bool kspeed.neg, .string kspeed.num, .string kspeed.den, .bool kbrake.neg, .string kbrake.num, .string kbrake.den, .slice A5 n5 c5]
      obtain ⟨g7, hg7⟩ : ∃ g, g = wq.heap.size := ⟨_, rfl⟩
      have hvl : vs.length ≤ 2 := by omega
      clear hI hown hsq hvs ha hb1 hgk
      go_upto_region 5 with (fail)
      clear f0 f1 f2 f3 f4 f5 f6 f7 f8 f9 f10 f11 f12 f13 f14 f15 hbn hbB
      rw [← hg7] at hJ ⊢
      generalize World.alloc _ _ = W3 at hJ ⊢
      clear hg7
      go_upto_if 26 with (fail)
      go_cut [8] (fun p wx => ∃ n : Int, InI n ∧ p = .int .i64 n ∧ wx = W3)
      case first =>
        as_aux_lemma =>
        by_cases hlr : vs.length < r.length
        · have hri1 : (vs.length : Int) < (r.length : Int) := by omega
          have hri2 : 0 ≤ (vs.length : Int) ∧ (vs.length : Int) < (r.length : Int) := by omega
          obtain ⟨bi, oi, zi, rfl, hbi, hzi, hci⟩ := Rd.one HRI.out hlr
          have hcell := (hJ.bel.cell (p := ⟨bi, oi + vs.length, none⟩) (Nat.lt_of_lt_of_le hbi hbw.size)).trans ((hbw.cell (p := ⟨bi, oi + vs.length, none⟩) hbi).trans hci)
          have hbil : bi < W3.heap.size := Nat.lt_of_lt_of_le hbi (Nat.le_trans hbw.size hJ.bel.size)
          have hin2 := HII.out zi (List.mem_of_getElem? hzi)
          have HN2 := Lib.hid hin2
          clear hci hzi hin2
          go_wp2_with fail
          go_meet
          exact ⟨zi, HN2.out, rfl, rfl⟩
        · have hri1 : ¬ (vs.length : Int) < (r.length : Int) := by omega
          go_wp2_with fail
          go_meet
          exact ⟨0, ⟨by decide, by decide⟩, rfl, rfl⟩
      case rest =>
        obtain ⟨n, hn, rfl, rfl⟩ := hcut
        obtain ⟨w3, rfl⟩ : ∃ w3, w3 = wc := ⟨_, rfl⟩
        have hn1 : -9223372036854775808 ≤ n ∧ n ≤ 9223372036854775807 := hn
        obtain ⟨n9, hn9⟩ : ∃ m, n.tdiv 9 = m := ⟨_, rfl⟩
        have hn9b : -9223372036854775808 ≤ n9 ∧ n9 ≤ 9223372036854775807 := by
          rw [← hn9]
          rcases Int.lt_or_le n 0 with h | h
          · rw [show n = -(-n) by omega, Int.neg_tdiv, Int.tdiv_eq_ediv_of_nonneg (by omega)]
            omega
          · rw [Int.tdiv_eq_ediv_of_nonneg h]
            omega
        have hw9 : IntKind.i64.wrap n9 = n9 := by rw [IntKind.wrap_i64]; omega
        obtain ⟨m, hm⟩ : ∃ m, n9 % 17 = m := ⟨_, rfl⟩
        have hm17 : 0 ≤ m ∧ m < 17 := by omega
        have HBE := Lib.hid (fun W => below_any n9 17 W (by decide) (by decide))
        rw [hm] at HBE
        have hwm : IntKind.i64.wrap (m - 8) = m - 8 := by rw [IntKind.wrap_i64]; omega
        obtain ⟨z, qz, cz, lz, MK⟩ := makeR wq HT2.out (m - 8) 8 (by decide +kernel)
        obtain ⟨v, qv, cv, lv, MU⟩ := mulR wq HT2.out kspeed z ls lz
        have hva : absQ v.q ≤ kspeed.q := by rw [qv]; exact v_at hsp (by omega) qz
        have HVA := Lib.hid (show VAt ⟨klen, klow, khigh, kspeed, kbrake, .slice A5 n5 c5⟩ v from ⟨cv, lv.more (by decide), hva⟩)
        have hwk : IntKind.i64.wrap ((vs.length : Int) + 1) = (vs.length : Int) + 1 := by rw [IntKind.wrap_i64]; omega
        clear hm hn1 hn9b hm17 qz cz lz qv cv lv hva hsp ls hn
        go_wp2_with fail
        refine (HBE.out _).mono ?_
        rintro e w4 ⟨rfl, rfl⟩
        go_wp2_with fail
        refine (MK.out _ hJ.bel).mono ?_
        rintro e wn ⟨rfl, hb⟩
        replace hJ := hJ.call hb
        clear hb
        replace hJ := hJ.alloc 25 #[.bool z.neg, .string z.num, .string z.den]
        obtain ⟨g9, hg9⟩ : ∃ g, g = wn.heap.size := ⟨_, rfl⟩
        go_upto_region 9 with (fail)
        rw [← hg9] at hJ ⊢
        generalize World.alloc _ _ = W5 at hJ ⊢
        clear hg9 hn9 hw9 HBE
        refine wp_region_inv 7 (In wq [(g9, 25, #[.bool z.neg, .string z.num, .string z.den]), (g7, 28, #[.bool klen.neg, .string klen.num, .string klen.den, .bool klow.neg, .string klow.num, .string klow.den, .bool khigh.neg, .string khigh.num, .string khigh.den, .bool kspeed.neg, .string kspeed.num, .string kspeed.den, .bool kbrake.neg, .string kbrake.num, .string kbrake.den, .slice A5 n5 c5])]) (StaF g5 g7 g9 vv kspeed z v) (by kernel_rfl) (by kernel_rfl) hJ.drew ?_ ?_
        · intro i o hi ho us W hI hdep
          rcases i with _ | _ | _ | _ | _ | _ | _ | i
          all_goals first | omega | skip
          all_goals (simp only [List.getElem?_cons_succ, List.getElem?_cons_zero, Option.some.injEq] at ho; subst ho)
          · refine ⟨rfl, .inl ⟨.pointer (some ⟨g5, 1, none⟩), W, ?_, hI, rfl, fun j u h => h⟩⟩
            unfold lexA
            simp only [putAll, preI, Nat.reduceLT, Nat.reduceAdd, decide_false, Bool.false_eq_true, if_false]
            go_simp
          · have d0 : us 0 = .pointer (some ⟨g5, 1, none⟩) := hdep ⟨0, .data⟩ (by simp) rfl
            have fb := EB.out W hI.bel
            refine ⟨rfl, .inl ⟨vv, W, ?_, hI, rfl, fun j u h => h⟩⟩
            clear hI
            unfold lexA
            simp only [putAll, preI, Nat.reduceLT, Nat.reduceAdd, decide_true, decide_false, Bool.false_eq_true, if_true, if_false, Act.put, List.setIfInBounds_toArray, List.set_cons_zero, List.set_cons_succ]
            go_simp
          · refine ⟨rfl, .inl ⟨.pointer (some ⟨g7, 9, none⟩), W, ?_, hI, rfl, fun j u h => h⟩⟩
            unfold lexA
            simp only [putAll, preI, Nat.reduceLT, Nat.reduceAdd, decide_true, decide_false, Bool.false_eq_true, if_true, if_false, Act.put, List.setIfInBounds_toArray, List.set_cons_zero, List.set_cons_succ]
            go_simp
          · have d2 : us 2 = .pointer (some ⟨g7, 9, none⟩) := hdep ⟨2, .data⟩ (by simp) rfl
            have fx := hI.facts
            simp only [factsOf, cellsOf, Nat.zero_add, Nat.reduceAdd] at fx
            refine ⟨rfl, .inl ⟨.agg #[.bool kspeed.neg, .string kspeed.num, .string kspeed.den], W, ?_, hI, rfl, fun j u h => h⟩⟩
            clear hI
            unfold lexA
            simp only [putAll, preI, Nat.reduceLT, Nat.reduceAdd, decide_true, decide_false, Bool.false_eq_true, if_true, if_false, Act.put, List.setIfInBounds_toArray, List.set_cons_zero, List.set_cons_succ]
            go_simp
          · have fx := hI.facts
            simp only [factsOf, cellsOf, Nat.zero_add, Nat.reduceAdd] at fx
            refine ⟨rfl, .inl ⟨.agg #[.bool z.neg, .string z.num, .string z.den], W, ?_, hI, rfl, fun j u h => h⟩⟩
            clear hI
            unfold lexA
            simp only [putAll, preI, Nat.reduceLT, Nat.reduceAdd, decide_true, decide_false, Bool.false_eq_true, if_true, if_false, Act.put, List.setIfInBounds_toArray, List.set_cons_zero, List.set_cons_succ]
            go_simp
          · have d3 : us 3 = .agg #[.bool kspeed.neg, .string kspeed.num, .string kspeed.den] := hdep ⟨3, .data⟩ (by simp) rfl
            have d4 : us 4 = .agg #[.bool z.neg, .string z.num, .string z.den] := hdep ⟨4, .data⟩ (by simp) rfl
            refine ⟨rfl, .inr ⟨_, _, ?_, (MU.out W hI.bel).mono fun e W' ⟨he, hb⟩ => ⟨_, he, hI.call hb, rfl, StaF.below hb⟩⟩⟩
            unfold lexA
            simp only [putAll, preI, Nat.reduceLT, Nat.reduceAdd, decide_true, decide_false, Bool.false_eq_true, if_true, if_false, Act.put, List.setIfInBounds_toArray, List.set_cons_zero, List.set_cons_succ]
            go_simp
          · have d5 : us 5 = .agg #[.bool v.neg, .string v.num, .string v.den] := hdep ⟨5, .data⟩ (by simp) rfl
            refine ⟨rfl, .inl ⟨.slice (some ⟨W.heap.size, 0, none⟩) 1 1, W.alloc (.cells #[.bool v.neg, .string v.num, .string v.den] 25), ?_, hI.skip _, ⟨W.heap.size, rfl, Blk.new _ _ _⟩, StaF.below ((Below.refl _ _).alloc (Nat.le_refl _) _)⟩⟩
            unfold lexA
            simp only [putAll, preI, Nat.reduceLT, Nat.reduceAdd, decide_true, decide_false, Bool.false_eq_true, if_true, if_false, Act.put, List.setIfInBounds_toArray, List.set_cons_zero, List.set_cons_succ]
            go_simp
        · intro us W hI hF
          have d1 : us 1 = vv := hF 1 (by decide)
          obtain ⟨gL, d6, hbk⟩ : ∃ gL, us 6 = .slice (some ⟨gL, 0, none⟩) 1 1 ∧ Blk W gL 25 #[.bool v.neg, .string v.num, .string v.den] := hF 6 (by decide)
          have Ho := Lib.hid (own_below HOWN.out hI.bel (Nat.le_refl _))
          have hbase : g5 + 1 ≤ W.heap.size := Nat.le_trans hg5l hI.bel.size
          have Hrs := Lib.hid (show Rd W W.heap.size 3 (some ⟨gL, 0, none⟩) 1 [.bool v.neg, .string v.num, .string v.den] from ⟨rfl, fun _ => ⟨gL, 0, rfl, hbk.lt, fun j u hj => by rw [Nat.zero_add]; exact hbk.cell j u (by simpa using hj)⟩⟩)
          have HSQ8 := Lib.hid (HSQ.out.below hI.bel HSQ.out.lt)
          have HIW := Lib.hid (HI0.out.call hI.bel)
          have HPU := Lib.hid (fun (gq cq : Nat) (w6 : World) (hn6 : w6.ownsRow (g5 + 1) 25 3 (.slice (some ⟨gq, 0, none⟩) (vs.length + 1) cq) (vs.length + 1) (vs.flatMap encQ ++ [.bool v.neg, .string v.num, .string v.den])) (hb6 : Below (g5 + 1) W w6) => (HIW.out.callB hb6 (by have := HGG.out; omega) (by
            have hgg := HGG.out
            intro x hx
            simp only [List.mem_cons, List.not_mem_nil, or_false] at hx
            rcases hx with rfl | rfl | rfl
            · exact Nat.lt_succ_self _
            · show g + 1 < g5 + 1; omega
            · show g < g5 + 1; omega)))
          have HRL := Lib.hid (fun (gq cq : Nat) (w6 : World) (hn6 : w6.ownsRow (g5 + 1) 25 3 (.slice (some ⟨gq, 0, none⟩) (vs.length + 1) cq) (vs.length + 1) (vs.flatMap encQ ++ [.bool v.neg, .string v.num, .string v.den])) (hb6 : Below (g5 + 1) W w6) => (show StaRel w g5 [(g + 1, 61, #[.slice none 0 0, .slice none 0 0, .bool false, .int .i64 0]), (g, 37, #[.string nm, .bool px.neg, .string px.num, .string px.den, .bool py.neg, .string py.num, .string py.den, .bool hf, .bool t.neg, .string t.num, .string t.den, .slice (some ⟨b9, o, none⟩) L.length C])] bq qs.length Cq cur L (.int .i64 ((vs.length : Int) + 1)) (w6.setCell ⟨g5, 1, none⟩ (.slice (some ⟨gq, 0, none⟩) (vs.length + 1) cq)) from by
            have hI6 := HPU.out gq cq w6 hn6 hb6
            have k1 := hI6.set (a := []) 1 (.slice (some ⟨gq, 0, none⟩) (vs.length + 1) cq)
            simp only [List.nil_append, List.setIfInBounds_toArray, List.set_cons_zero, List.set_cons_succ] at k1
            have hgr := grown_set w6 g5 1 (.slice (some ⟨gq, 0, none⟩) (vs.length + 1) cq)
            refine ⟨vs ++ [v], _, by simp, VsIn.snoc HVS.out HA.out HVA.out, k1, ?_, ?_, hbq5, by rw [World.size_setCell]; exact Nat.lt_of_lt_of_le (Nat.lt_of_succ_le hbase) hb6.size⟩
            · have h6 := hn6.kept hgr (.inr (fun e => by have := (hn6.lt _ e).1; omega))
              simpa [encQ] using h6
            · exact (HSQ8.out.below hb6 (by omega)).far (p := ⟨g5, 1, none⟩) (show bq ≠ g5 from by omega) _))
          unfold lexA
          simp only [putAll, preI, Nat.reduceLT, Nat.reduceAdd, decide_true, decide_false, Bool.false_eq_true, if_true, if_false, Act.put, List.setIfInBounds_toArray, List.set_cons_zero, List.set_cons_succ, List.drop_succ_cons, List.drop_zero]
          rw [d1, d6]
          clear hF hI hbk d1 d6 hJ
          go_wp2_with (at_builtin; refine wpList_extend rfl (.tmp 40) (.tmp 45) 48 rfl (g5 + 1) 25 i0 (.agg #[.bool false, .string { data := #[] }, .string { data := #[] }]) 3 40 Tryd.underlying48 hi0 hz0 hz1 hz2 rfl (by omega) _ vs.length _ rfl Ho.out _ 1 1 _ [.bool v.neg, .string v.num, .string v.den] rfl (fun h => by cases h) Hrs.out (by simp [Value.oneCell']) (by unfold maxLen; omega) (by omega) hbase ?_; intro v6 w6 hn6 hb6; obtain ⟨gq, cq, rfl, _, _, _⟩ := own_shape hn6 (by omega); have HX := Lib.hid (HRL.out gq cq w6 hn6 hb6); have hS6 := (HPU.out gq cq w6 hn6 hb6).take (a := [_]); have fx6 := hS6.facts; simp only [factsOf, cellsOf, Nat.zero_add, Nat.reduceAdd] at fx6; have hz6 := fun i => hS6.free (k := 0) (i := i) rfl; clear hS6 hn6 hb6)
          clear fx6 hz6
          go_roundw
          case rel => exact HX.out
          case measure => simp [intOf]; omega
    · have hle : vs.length = L.length := by have := hvs.1; omega
      have hi1 : ¬ (vs.length : Int) < (L.length : Int) := by omega
      obtain ⟨gq, cq, rfl, _, _, _⟩ := own_shape hown (by omega)
      have hT := hI.take (a := [_, _])
      have fx := hT.facts
      simp only [factsOf, cellsOf, Nat.zero_add, Nat.reduceAdd] at fx
      have hz := fun i => hT.free (k := 1) (i := i) rfl
      have HK := Lib.hid (hI.all4 (a := [_]) (.slice (some ⟨bq, 0, none⟩) qs.length Cq) (.slice (some ⟨gq, 0, none⟩) vs.length cq) (.bool true) (.int .i64 (-1)))
      have hgr := grown4 wr (g + 1) (.slice (some ⟨bq, 0, none⟩) qs.length Cq) (.slice (some ⟨gq, 0, none⟩) vs.length cq) (.bool true) (.int .i64 (-1))
      have hbk := hI.blkAt (k := 1) rfl
      have HO := Lib.hid (hown.kept hgr (.inr (fun e => absurd (own_type hown e hbk) (by decide))))
      have hne : bq ≠ g + 1 := fun e => by
        subst e
        have h8 := hsq.symm.trans hbk
        injection h8 with h8
        injection h8 with _ h8
        exact absurd h8 (by decide)
      have HSQ := Lib.hid (show Blk ((((wr.setCell ⟨g + 1, 0, none⟩ (.slice (some ⟨bq, 0, none⟩) qs.length Cq)).setCell ⟨g + 1, 1, none⟩ (.slice (some ⟨gq, 0, none⟩) vs.length cq)).setCell ⟨g + 1, 2, none⟩ (.bool true)).setCell ⟨g + 1, 3, none⟩ (.int .i64 (-1))) bq 25 cur from
        (((hsq.far (p := ⟨g + 1, 0, none⟩) hne _).far (p := ⟨g + 1, 1, none⟩) hne _).far (p := ⟨g + 1, 2, none⟩) hne _).far (p := ⟨g + 1, 3, none⟩) hne _)
      have HVS := Lib.hid hvs
      have HLE := Lib.hid hle
      clear hT hI hown hsq hvs hle hbk hgr
      go_wp2_with fail
      clear fx hz
      have hK := HK.out
      have hO := HO.out
      have hB := HSQ.out
      clear HK HO HSQ
      generalize World.setCell _ _ _ = W9 at hK hO hB ⊢
      refine bodyPost_ret (results_cell_row Tryd.results34 _ _ (g + 1) 61 _ (0, 0) _ rfl (hK.blkAt (k := 1) rfl) Tryd.underlying61 rfl (by kernel_rfl)) rfl ?_
      refine ⟨_, _, qs, vs, rfl, HQL.out, HQS.out, HLE.out, HVS.out, ⟨_, _, _, rfl, rfl, HCU.out.2, (fun h => by cases h), flatQ_length qs, fun _ => ⟨bq, 0, rfl, hB.lt, fun j u hu => ?_⟩⟩, SlQ.own hO, hK.bel, _, _, _, rfl, HLO.out⟩
      rw [Nat.zero_add]
      refine hB.cell j u ?_
      have h1 := HCU.out.1
      have h2 : (cur.toList.take (qs.length * 3))[j]? = some u := by rw [h1]; exact hu
      rw [List.getElem?_take] at h2
      split at h2
      · simpa using h2
      · cases h2
theorem state_any (w : World) (hT : TabW w) (a : Ar) (hG : GenAr a) (hA : a.At w w.heap.size) (va : Value) (r : List Int) (hv : SlI w w.heap.size va r) (hr : r.length ≤ 140737488355328) (hri : ∀ x ∈ r, InI x) :
    Calls Tryd.prog 34 #[a.val, va] w (StateMk w a.L) :=
  (state_own w hT a hG hA va r hv hr hri).mono fun e w' ⟨vq, vv, qs, vs, h1, h2, h3, h4, h5, h6, h7, h8, _⟩ => ⟨vq, vv, qs, vs, h1, h2, h3, h4, h5, h6, h7, h8⟩
end Go.Proofs.YtnnbnecpcppkdaaDoor
