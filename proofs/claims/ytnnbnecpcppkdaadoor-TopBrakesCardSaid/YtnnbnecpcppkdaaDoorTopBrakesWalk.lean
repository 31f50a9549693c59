/- TopBrakes: the walk. Conditions: those typed. -/
import Derived.Test.YtnnbnecpcppkdaaDoorBrkGen
import Derived.Test.YtnnbnecpcppkdaaDoorSpan
import Derived.Test.YtnnbnecpcppkdaaDoorArgQ
import Derived.Test.YtnnbnecpcppkdaaDoorNeqQ
namespace Go.Proofs.YtnnbnecpcppkdaaDoor.topBrakes
open Go.RowKit Go.Gy
set_option linter.unusedVariables false
set_option linter.unusedSimpArgs false
def TbRel (w : World) (g9 g8 : Nat) (arm : Array Value) (bq nq Cq : Nat) (cur : Array Value) (L : List (Lk × List P2)) (i : Value) (wr : World) : Prop :=
  ∃ (vs : List Q3) (vv : Value), i = .int .i64 vs.length ∧ VsIn L vs ∧ (∀ v ∈ vs, 0 ≤ v.q) ∧ In w [(g9, 61, #[.slice (some ⟨bq, 0, none⟩) nq Cq, vv, .bool false, .int .i64 (-1)]), (g8, 37, arm)] wr ∧ wr.ownsRow (g9 + 1) 25 3 vv vs.length (vs.flatMap encQ) ∧ Blk wr bq 25 cur ∧ bq < g9 ∧ g9 < wr.heap.size
def MoRel (w : World) (n : Nat) (L : List (Lk × List P2)) (vs : List Q3) (i m : Value) (wr : World) : Prop := ∃ k M : Nat, k ≤ n ∧ i = .int .i64 k ∧ m = .int .i64 M ∧ M ≤ 60 ∧ (∀ (j : Nat) (x : Lk × List P2) (v : Q3), j < k → L[j]? = some x → vs[j]? = some v → ∃ n : Int, TicksIs x.1.brake.q v.q n 0 ∧ n ≤ M) ∧ In w [] wr
def HoRel (w1 : World) (g9 g8 : Nat) (arm : Array Value) (gx cx : Nat) (S1 : List P2) (L : List (Lk × List P2)) (qs0 vs0 : List Q3) (M : Nat) (i : Value) (wr : World) : Prop :=
  ∃ (t : Nat) (qs vs : List Q3) (Aq : Option Addr) (Cq : Nat) (Av : Option Addr) (Cv : Nat), i = .int .i64 t ∧ t ≤ M ∧ In w1 [(g9, 61, #[.slice Aq qs.length Cq, .slice Av vs.length Cv, .bool false, .int .i64 (-1)]), (g8, 37, arm)] wr ∧
    SlQ wr wr.heap.size (.slice Aq qs.length Cq) qs ∧ SlQ wr wr.heap.size (.slice Av vs.length Cv) vs ∧ SlP wr wr.heap.size (.slice (some ⟨gx, 0, none⟩) S1.length cx) S1 ∧ qs.length = L.length ∧ vs.length = L.length ∧
    ∀ (j : Nat) (x : Lk × List P2) (q0 v0 q v : Q3), L[j]? = some x → qs0[j]? = some q0 → vs0[j]? = some v0 → qs[j]? = some q → vs[j]? = some v → HoldAt x.1 q0 v0 t q v
set_option maxRecDepth 100000 in
set_option maxHeartbeats 8000000 in
theorem walk (v0 v1 : Value) (w : World) {b0 b1 : Nat} (f0 : IntsArg w v0 b0) (f1 : IntsArg w v1 b1) (hT : TabW w) :
    Calls Tryd.prog 13 #[v0, v1] w fun e w' => e = .returned (.bool true) ∧ Below w.heap.size w w' := by
  obtain ⟨r0, hl0, _, _, hrb0⟩ := f0
  obtain ⟨r1, hl1, _, _, hrb1⟩ := f1
  have HT := Lib.hid hT
  obtain ⟨h, qh, _, lh, OH⟩ := of_link 1 2 (by decide) (by decide) (by decide)
  obtain ⟨v2, q2, _, lv2, O2⟩ := of_link 2 1 (by decide) (by decide) (by decide)
  obtain ⟨z0, qz0, cz0, _, OZ⟩ := of_link 0 1 (by decide) (by decide) (by decide)
  obtain ⟨n, e, hTI, TK⟩ := ticksR w hT ⟨nilQ3, nilQ3, nilQ3, nilQ3, h, .slice none 0 0⟩ v2 lv2 lh
  have hne : n = 4 ∧ e = 0 := by
    have hTI : TicksIs h.q v2.q n e := hTI
    rw [qh, q2, show mkRat 2 1 = 2 by decide +kernel, show mkRat 1 2 = 1 / 2 by decide +kernel] at hTI
    have ha : absQ 2 = 2 := by decide +kernel
    rcases hTI with ⟨h, _⟩ | ⟨_, h, _⟩ | ⟨_, _, he, h0, h1, h2, h3⟩
    · exact absurd h (by decide +kernel)
    · exact absurd h (by decide +kernel)
    · refine ⟨?_, he⟩
      rw [ha] at h2 h3
      have e1 : ¬ n ≤ 3 := fun h => by
        have h4 : (n : Rat) ≤ ((3 : Int) : Rat) := Rat.intCast_le_intCast.mpr h
        have h5 : ((3 : Int) : Rat) = 3 := rfl
        grind
      have e2 : ¬ 5 ≤ n := fun h => by
        have h4 : ((5 : Int) : Rat) ≤ (n : Rat) := Rat.intCast_le_intCast.mpr h
        have h5 : ((5 : Int) : Rat) = 5 := rfl
        grind
      omega
  obtain ⟨rfl, rfl⟩ := hne
  simp only [nilQ3] at TK
  have hz00 : z0.q = 0 := by rw [qz0]; decide +kernel
  have HZ0 := Lib.hid (And.intro hz00 cz0)
  have OH := Lib.hid (fun (W : World) (_ : Below w.heap.size w W) => OH W)
  have O2 := Lib.hid (fun (W : World) (_ : Below w.heap.size w W) => O2 W)
  have OZ := Lib.hid OZ
  have HA := Lib.hid (fun W (hW : Below w.heap.size w W) => armMake W v0 r0 ((hl0.below hW).more hW.size) (by unfold reachBytes at hrb0; omega))
  have HL1 := Lib.hid hl1
  have HR1 := Lib.hid hrb1
  clear hl0 hrb0 hrb1 qh q2 hTI hz00 qz0 cz0
  obtain ⟨A1, n1, c1, rfl, hn1l, _, _, _⟩ := id hl1
  have hn1b : n1 ≤ 140737488355328 := by have := HR1.out; unfold reachBytes at this; omega
  clear hl1 hn1l
  have hI := In.start w
  clear hT
  go_enter Tryd.func13, Tryd.ntmps13
  go_wp2_with fail
  refine (OH.out _ hI.bel).mono ?_
  rintro e wn ⟨rfl, hb⟩
  replace hI := hI.call hb
  clear hb
  replace hI := hI.alloc 25 #[.bool h.neg, .string h.num, .string h.den]
  obtain ⟨g5, hg5⟩ : ∃ g, g = wn.heap.size := ⟨_, rfl⟩
  go_upto_region 2 with (fail)
  rw [← hg5] at hI ⊢
  generalize World.alloc _ _ = W1 at hI ⊢
  clear hg5
  refine wp_region_in hI (by kernel_rfl) (by kernel_rfl) ?_
  repeat (first
    | (refine wpSeq_off (by rfl) ?_; try simp only [Act.put, List.setIfInBounds_toArray, List.set_cons_zero, List.set_cons_succ])
    | (refine wpSeq_val (v := ?_) (by rfl) (fun W hS => ?_) ?_
       rotate_left
       · (have fx := hS.facts; simp only [factsOf, cellsOf, Nat.zero_add, Nat.reduceAdd] at fx; clear hS; go_simp; first | done | with_reducible rfl)
       try simp only [Act.put, List.setIfInBounds_toArray, List.set_cons_zero, List.set_cons_succ]))
  refine wpSeq_call (v := .agg #[.bool v2.neg, .string v2.num, .string v2.den]) (by rfl) (fun W hS => ?_) (fun W hS => (O2.out W hS.bel)) ?_
  · (clear hS; go_simp; done)
  try simp only [Act.put, List.setIfInBounds_toArray, List.set_cons_zero, List.set_cons_succ]
  repeat (first
    | (refine wpSeq_off (by rfl) ?_; try simp only [Act.put, List.setIfInBounds_toArray, List.set_cons_zero, List.set_cons_succ])
    | (refine wpSeq_val (v := ?_) (by rfl) (fun W hS => ?_) ?_
       rotate_left
       · (have fx := hS.facts; simp only [factsOf, cellsOf, Nat.zero_add, Nat.reduceAdd] at fx; clear hS; go_simp; first | done | with_reducible rfl)
       try simp only [Act.put, List.setIfInBounds_toArray, List.set_cons_zero, List.set_cons_succ]))
  refine wpSeq_call (v := .tuple #[.int .i64 4, .int .i64 0]) (by rfl) (fun W hS => ?_) (fun W hS => (TK.out W hS.bel)) ?_
  · (clear hS; go_simp; done)
  try simp only [Act.put, List.setIfInBounds_toArray, List.set_cons_zero, List.set_cons_succ]
  repeat (first
    | (refine wpSeq_off (by rfl) ?_; try simp only [Act.put, List.setIfInBounds_toArray, List.set_cons_zero, List.set_cons_succ])
    | (refine wpSeq_val (v := ?_) (by rfl) (fun W hS => ?_) ?_
       rotate_left
       · (have fx := hS.facts; simp only [factsOf, cellsOf, Nat.zero_add, Nat.reduceAdd] at fx; clear hS; go_simp; first | done | with_reducible rfl)
       try simp only [Act.put, List.setIfInBounds_toArray, List.set_cons_zero, List.set_cons_succ]))
  refine wpSeq_nil (fun W hS => ?_)
  clear hI O2 TK
  replace hI := hS.tail
  clear hS
  go_wp2_with fail
  refine (HA.out _ hI.bel).mono ?_
  rintro e w1 ⟨a, he, hG, hAt, hb⟩
  have HG := Lib.hid hG
  have hb1 := hI.bel.trans (hb.mono hI.bel.size)
  have HB1 := Lib.hid hb1
  have HAt := Lib.hid hAt
  have HCF := Lib.hid (fun W (hW : Below w1.heap.size w1 W) => confMake W a hG (hAt.up hW) (.slice A1 n1 c1) r1 ((HL1.out.below (hb1.trans (hW.mono hb1.size))).more (hb1.trans (hW.mono hb1.size)).size) (by have := HR1.out; unfold reachBytes at this; omega))
  have HSP := Lib.hid (fun W (hW : Below w1.heap.size w1 W) (N : Nat) (hN : 4 ≤ N ∧ N ≤ 67108864) vq vv ql vl hq hv lq lv => spans_any W (tabs w HT.out (hb1.trans (hW.mono hb1.size))) a (hAt.up hW) (hG.le.more hN.1) vq vv ql vl hq hv lq lv (by omega))
  have HBK := Lib.hid (fun W (hW : Below w1.heap.size w1 W) (N : Nat) (hN : 4 ≤ N ∧ N ≤ 67108864) vq vv ql vl pw hd hq hv lq lv => brake_any W (tabs w HT.out (hb1.trans (hW.mono hb1.size))) a (hAt.up hW) (hG.le.more hN.1) vq vv ql vl pw hd hq hv lq lv (by omega))
  obtain ⟨ar, har⟩ : ∃ ar, ar = a := ⟨_, rfl⟩
  rw [← har] at HCF HSP HBK HG
  obtain ⟨nm, ⟨px, py⟩, hf, t, va, L⟩ := a
  obtain ⟨⟨A, N, C, hva, hNL, hNC, _, hrd⟩, hshp⟩ := hAt
  obtain rfl : va = .slice A N C := hva
  obtain rfl : L.length = N := (Ar.ks_len ⟨nm, ⟨px, py⟩, hf, t, .slice A N C, L⟩).symm.trans hNL
  have hval : ar.val = .agg #[.string nm, .bool px.neg, .string px.num, .string px.den, .bool py.neg, .string py.num, .string py.den, .bool hf, .bool t.neg, .string t.num, .string t.den, .slice A L.length C] := by rw [har]; rfl
  have HLL := Lib.hid (show ar.L = L by rw [har])
  have he : e = .returned (.agg #[.string nm, .bool px.neg, .string px.num, .string px.den, .bool py.neg, .string py.num, .string py.den, .bool hf, .bool t.neg, .string t.num, .string t.den, .slice A L.length C]) := he
  subst he
  rw [hval] at HCF HSP HBK
  have HRD := Lib.hid hrd
  have HSH := Lib.hid (show ∀ x ∈ L, SlP w1 w1.heap.size x.1.shape x.2 from hshp)
  have HGL := Lib.hid (show ∀ x ∈ L, GenLk x.1 x.2 from by rw [← HLL.out]; exact HG.out.lk)
  have hL3 : L.length ≤ 3 ∧ 1 ≤ L.length := by rw [← HLL.out]; exact ⟨HG.out.len.2, HG.out.len.1⟩
  have HKS := Lib.hid (show ∀ i : Nat, (L.map (·.1))[i]? = (L[i]?).map (·.1) from fun i => List.getElem?_map)
  rw [show ar.L = L from HLL.out] at HCF
  obtain ⟨i0, hi0, hi1⟩ := Option.map_eq_some_iff.1 info_rat
  injection hi1 with hz0 hi1
  injection hi1 with hz1 hz2
  clear hI hb HA hb1 hG hrd hshp hNL HL1 HR1 har hval OH
  have hI := (In.start w1).alloc 37 #[.string nm, .bool px.neg, .string px.num, .string px.den, .bool py.neg, .string py.num, .string py.den, .bool hf, .bool t.neg, .string t.num, .string t.den, .slice A L.length C]
  obtain ⟨g8, hg8⟩ : ∃ g, g = w1.heap.size := ⟨_, rfl⟩
  go_upto_region 6 with (fail)
  rw [← hg8] at hI ⊢
  generalize World.alloc _ _ = W2 at hI ⊢
  clear hg8
  have fx := hI.facts
  simp only [factsOf, cellsOf, Nat.zero_add, Nat.reduceAdd] at fx
  go_wp2_with fail
  refine (HCF.out _ hI.bel).mono ?_
  rintro e wn3 ⟨vq, qs, lo, rfl, hql, hqs, _, hown, hb⟩
  obtain ⟨hol, ⟨_, ho0⟩ | ⟨bq, Cq, cur, rfl, _, hoh, hoc, _, hos, hot⟩⟩ := hown
  · exfalso; omega
  have hbk0 : Blk wn3 bq 25 cur := hoh
  have HSQ := Lib.hid (And.intro hbk0 hbk0.lt)
  have HCU := Lib.hid (And.intro hot hoc)
  have HQL := Lib.hid hql
  have HQS := Lib.hid hqs
  have hIc := hI.call hb
  have HG98 := Lib.hid (show g8 < wn3.heap.size ∧ w1.heap.size ≤ wn3.heap.size from ⟨hIc.lt (k := 0) rfl, hIc.bel.size⟩)
  clear hIc
  replace hI := (hI.call hb).alloc 61 #[.slice (some ⟨bq, 0, none⟩) qs.length Cq, .slice none 0 0, .bool false, .int .i64 (-1)]
  clear hb fx HCF hol hoh hoc hos hot hbk0 hql hqs
  obtain ⟨g9, hg9⟩ : ∃ g, g = wn3.heap.size := ⟨_, rfl⟩
  go_upto_region 7 with (fail)
  rw [← hg9] at hI HSQ HG98 ⊢
  have HSQ2 := Lib.hid (And.intro (HSQ.out.1.alloc (.cells #[.slice (some ⟨bq, 0, none⟩) qs.length Cq, .slice none 0 0, .bool false, .int .i64 (-1)] 61)) HSQ.out.2)
  have hlt := hI.lt (k := 0) rfl
  clear hg9 HSQ
  generalize World.alloc _ _ = W3 at hI HSQ2 hlt ⊢
  have hst := Lib.hid (show TbRel w1 g9 g8 #[.string nm, .bool px.neg, .string px.num, .string px.den, .bool py.neg, .string py.num, .string py.den, .bool hf, .bool t.neg, .string t.num, .string t.den, .slice A L.length C] bq qs.length Cq cur L (.int .i64 0) W3 from ⟨[], _, rfl, ⟨Nat.zero_le _, fun j v x h => by simp at h⟩, (fun v h => by cases h), hI, ⟨rfl, .inl ⟨rfl, rfl⟩⟩, HSQ2.out.1, HSQ2.out.2, hlt⟩)
  have fx := hI.facts
  simp only [factsOf, cellsOf, Nat.zero_add, Nat.reduceAdd] at fx
  clear hI HSQ2 hlt
  go_wp2_with fail
  clear fx
  go_loopw [49] (fun i wr => TbRel w1 g9 g8 #[.string nm, .bool px.neg, .string px.num, .string px.den, .bool py.neg, .string py.num, .string py.den, .bool hf, .bool t.neg, .string t.num, .string t.den, .slice A L.length C] bq qs.length Cq cur L i wr) (fun i _ => L.length - (intOf i).toNat)
  case atStart => exact hst.out
  case round =>
    clear hst
    obtain ⟨vs, vv, rfl, hvs, hv0, hI, hown, hsq, hbq9, hg9l⟩ := hrel
    obtain ⟨wq, rfl⟩ : ∃ wq, wq = wr := ⟨_, rfl⟩
    have hbw := hI.bel
    have HTQ := Lib.hid (tabs w HT.out (HB1.out.trans (hbw.mono HB1.out.size)))
    by_cases hin : vs.length < L.length
    · as_aux_lemma =>
      have hi1 : (vs.length : Int) < (L.length : Int) := by omega
      have hi2 : 0 ≤ (vs.length : Int) ∧ (vs.length : Int) < (L.length : Int) := by omega
      have hiq : 0 ≤ (vs.length : Int) ∧ (vs.length : Int) < (qs.length : Int) := by rw [HQL.out]; omega
      obtain ⟨⟨⟨klen, klow, khigh, kspeed, kbrake, kshape⟩, pts⟩, ha⟩ : ∃ x, L[vs.length]? = some x := ⟨_, List.getElem?_eq_getElem hin⟩
      obtain ⟨q, hq⟩ : ∃ q, qs[vs.length]? = some q := ⟨_, List.getElem?_eq_getElem (by rw [HQL.out]; exact hin)⟩
      obtain ⟨A5, n5, c5, hk5, _⟩ := HSH.out _ (List.mem_of_getElem? ha)
      obtain rfl : kshape = .slice A5 n5 c5 := hk5
      obtain ⟨b9, o, hAe, hbB, hlc⟩ := Rd.lnk HRD.out (i := vs.length) (k := ⟨klen, klow, khigh, kspeed, kbrake, .slice A5 n5 c5⟩) (by
        show (L.map (·.1))[vs.length]? = _
        rw [HKS.out, ha]; rfl)
      have hlc := hlc.below hbw hbB
      have hbn : b9 < wq.heap.size := Nat.lt_of_lt_of_le hbB hbw.size
      obtain ⟨f0, f1, f2, f3, f4, f5, f6, f7, f8, f9, f10, f11, f12, f13, f14, f15⟩ := hlc
      subst hAe
      have hgk : GenLk ⟨klen, klow, khigh, kspeed, kbrake, .slice A5 n5 c5⟩ pts := HGL.out _ (List.mem_of_getElem? ha)
      have hqi : QIn ⟨klen, klow, khigh, kspeed, kbrake, .slice A5 n5 c5⟩ q := HQS.out.2 _ q _ hq ha
      obtain ⟨l1, l2, l3, l4, l5⟩ : klen.le 1 ∧ klow.le 1 ∧ khigh.le 1 ∧ kspeed.le 1 ∧ kbrake.le 1 := by
        obtain ⟨_, _, _, _, _, _, _, _, _, _, _, _, _, h, _⟩ := hgk
        exact h
      have lq : q.le 1 := hqi.2.1
      obtain ⟨p, hp⟩ : ∃ p : Int, (n1 : Int).tmod 2 = p := ⟨_, rfl⟩
      have hp01 : p = 0 ∨ p = 1 := by rw [Int.tmod_eq_emod_of_nonneg (by omega)] at hp; omega
      obtain ⟨way, hway⟩ : ∃ way : Int, 1 - 2 * p = way := ⟨_, rfl⟩
      have hway1 : way = 1 ∨ way = -1 := by omega
      have hwp1 : IntKind.i64.wrap p = p := by rw [IntKind.wrap_i64]; omega
      have hwp2 : IntKind.i64.wrap (2 * p) = 2 * p := by rw [IntKind.wrap_i64]; omega
      have hwp3 : IntKind.i64.wrap (1 - 2 * p) = way := by rw [IntKind.wrap_i64]; omega
      obtain ⟨x, hF, FA⟩ := fastR wq HTQ.out ⟨klen, klow, khigh, kspeed, kbrake, .slice A5 n5 c5⟩ q way (N := 1) ⟨l1, l2, l3, l4, l5⟩ lq (by omega) (by omega) ⟨hway1, hgk.brake.1, (speed_gen hgk).1, (speed_gen hgk).2.2.1, (speed_gen hgk).2.2.2.1, (speed_gen hgk).2.2.2.2.1⟩
      obtain ⟨cx, lx, hx0, hxs, _, _⟩ := fast_safe hgk hqi hway1 hF
      have hxs : x.q ≤ kspeed.q := hxs
      have FA : Hid (∀ W, Below wq.heap.size wq W → Calls Tryd.prog 40 #[.agg #[.bool klen.neg, .string klen.num, .string klen.den, .bool klow.neg, .string klow.num, .string klow.den, .bool khigh.neg, .string khigh.num, .string khigh.den, .bool kspeed.neg, .string kspeed.num, .string kspeed.den, .bool kbrake.neg, .string kbrake.num, .string kbrake.den, .slice A5 n5 c5], .agg #[.bool q.neg, .string q.num, .string q.den], .int .i64 way] W fun r w' => r = .returned (.tuple #[.agg #[.bool x.neg, .string x.num, .string x.den], .int .i64 0]) ∧ Below W.heap.size W w') := FA
      have HVA := Lib.hid (show VAt ⟨klen, klow, khigh, kspeed, kbrake, .slice A5 n5 c5⟩ x from ⟨cx, lx.more (by decide), by show absQ x.q ≤ kspeed.q; unfold absQ; split <;> grind⟩)
      have HX0 := Lib.hid hx0
      have hsqq := SlQ.blk hsq HCU.out.1 HCU.out.2
      obtain ⟨_, _, _, he2, _, _, _, hr2⟩ := hsqq
      cases he2
      obtain ⟨_, _, he3, hbq, d0, d1, d2⟩ := Rd.quot hr2 hq
      cases he3
      rw [Nat.zero_add] at d0 d1 d2
      have hb0 := hI.cell (k := 0) (i := 0) rfl rfl
      have hb1 := hI.cell (k := 0) (i := 1) rfl rfl
      have E := Lib.hid (fun W (hW : Below wq.heap.size wq W) => (⟨(hW.cell (p := ⟨g9, 0, none⟩) hg9l).trans hb0, (hW.cell (p := ⟨bq, vs.length * 3, none⟩) hbq).trans d0, (hW.cell (p := ⟨bq, vs.length * 3 + 1, none⟩) hbq).trans d1, (hW.cell (p := ⟨bq, vs.length * 3 + 2, none⟩) hbq).trans d2, Nat.lt_of_lt_of_le hbq hW.size⟩ : And _ (And _ (And _ (And _ _)))))
      have EB := Lib.hid (fun W (hW : Below wq.heap.size wq W) => (hW.cell (p := ⟨g9, 1, none⟩) hg9l).trans hb1)
      have HI0 := Lib.hid hI
      have HOWN := Lib.hid hown
      have HSQ := Lib.hid hsq
      have HVS := Lib.hid hvs
      have HV0 := Lib.hid hv0
      have HA := Lib.hid ha
      have hJ := (In.start wq).alloc 28 #[.bool klen.neg, .string klen.num, .string klen.den, .bool klow.neg, .string klow.num, .string klow.den, .bool khigh.neg, .string khigh.num, .string khigh.den, .bool kspeed.neg, .string kspeed.num, .string kspeed.den, .bool kbrake.neg, .string kbrake.num, .string kbrake.den, .slice A5 n5 c5]
      obtain ⟨g11, hg11⟩ : ∃ g, g = wq.heap.size := ⟨_, rfl⟩
      have hvl : vs.length ≤ 2 := by omega
      have fx := hI.facts
      simp only [factsOf, cellsOf, Nat.zero_add, Nat.reduceAdd] at fx
      clear hI hown hsq hvs hv0 ha hb0 hb1 hgk hqi hF cx lx hx0 hxs hr2 hbq d0 d1 d2 hq l1 l2 l3 l4 l5 lq hp01 hway hway1
      go_upto_region 10 with (fail)
      clear f0 f1 f2 f3 f4 f5 f6 f7 f8 f9 f10 f11 f12 f13 f14 f15 hbn hbB fx
      rw [← hg11] at hJ ⊢
      generalize World.alloc _ _ = W4 at hJ ⊢
      clear hg11
      go_cut [12, 13] (fun p c wx => ∃ gm, p = .pointer (some ⟨gm, 0, none⟩) ∧ c = .int .i64 0 ∧ In wq [(gm, 25, #[.bool x.neg, .string x.num, .string x.den]), (g11, 28, #[.bool klen.neg, .string klen.num, .string klen.den, .bool klow.neg, .string klow.num, .string klow.den, .bool khigh.neg, .string khigh.num, .string khigh.den, .bool kspeed.neg, .string kspeed.num, .string kspeed.den, .bool kbrake.neg, .string kbrake.num, .string kbrake.den, .slice A5 n5 c5])] wx)
      case first =>
        as_aux_lemma =>
          refine wp_region_in_late 15 [14] _ 25 #[.bool false, .string { data := #[] }, .string { data := #[] }] hJ (by kernel_rfl) (by kernel_rfl) rfl ?_
          simp only [List.take_succ_cons, List.take_zero, List.drop_succ_cons, List.drop_zero]
          repeat (first
            | (refine wpSeqL_off (by rfl) ?_; try simp only [Act.put, List.setIfInBounds_toArray, List.set_cons_zero, List.set_cons_succ])
            | (refine wpSeqL_pure (v := ?_) (by rfl) (fun W => ?_) ?_
               rotate_left
               · (go_simp; first | done | with_reducible rfl)
               try simp only [Act.put, List.setIfInBounds_toArray, List.set_cons_zero, List.set_cons_succ])
            | (refine wpSeqL_val (v := ?_) (by rfl) (by rfl) (fun W hS => ?_) ?_
               rotate_left
               · (have fx := hS.facts; simp only [factsOf, cellsOf, Nat.zero_add, Nat.reduceAdd] at fx; have fy0 := E.out W hS.bel; clear hS; go_simp; first | done | with_reducible rfl)
               try simp only [Act.put, List.setIfInBounds_toArray, List.set_cons_zero, List.set_cons_succ]))
          refine wpSeqL_call (v := .tuple #[.agg #[.bool x.neg, .string x.num, .string x.den], .int .i64 0]) (by rfl) (by rfl) (fun W hS => ?_) (fun W hS => (FA.out W hS.bel)) ?_
          · (clear hS; go_simp; done)
          try simp only [Act.put, List.setIfInBounds_toArray, List.set_cons_zero, List.set_cons_succ]
          repeat (first
            | (refine wpSeqL_off (by rfl) ?_; try simp only [Act.put, List.setIfInBounds_toArray, List.set_cons_zero, List.set_cons_succ])
            | (refine wpSeqL_pure (v := ?_) (by rfl) (fun W => ?_) ?_
               rotate_left
               · (go_simp; first | done | with_reducible rfl)
               try simp only [Act.put, List.setIfInBounds_toArray, List.set_cons_zero, List.set_cons_succ])
            | (refine wpSeqL_val (v := ?_) (by rfl) (by rfl) (fun W hS => ?_) ?_
               rotate_left
               · (have fx := hS.facts; simp only [factsOf, cellsOf, Nat.zero_add, Nat.reduceAdd] at fx; clear hS; go_simp; first | done | with_reducible rfl)
               try simp only [Act.put, List.setIfInBounds_toArray, List.set_cons_zero, List.set_cons_succ]))
          refine wpSeqL_nil ⟨rfl, fun W hS => ?_, fun g W hI => ?_⟩
          · go_simp
          simp only [List.setIfInBounds_toArray, List.set_cons_zero, List.set_cons_succ]
          have hS1 := hI.take (a := [_])
          have fx := hS1.facts
          simp only [factsOf, cellsOf, Nat.zero_add, Nat.reduceAdd] at fx
          have hz := fun i => hS1.free (k := 0) (i := i) rfl
          have HX := Lib.hid (hI.all3 (a := []) (.bool x.neg) (.string x.num) (.string x.den))
          clear hS1 hI
          go_wp2_with fail
          refine NoPanic.normal ?_
          go_wp2_with fail
          go_meet
          exact ⟨g, rfl, rfl, HX.out⟩
      case rest =>
        clear hJ FA E
        obtain ⟨gm, rfl, rfl, hK⟩ := hcut
        have fb := EB.out wc hK.bel
        have Ho := Lib.hid (own_below HOWN.out hK.bel (Nat.le_refl _))
        have hbase : g9 + 1 ≤ wc.heap.size := Nat.le_trans hg9l hK.bel.size
        have HSQ8 := Lib.hid (HSQ.out.below hK.bel HSQ.out.lt)
        have HIW := Lib.hid (HI0.out.call hK.bel)
        have HPU := Lib.hid (fun (gq cq : Nat) (w6 : World) (hn6 : w6.ownsRow (g9 + 1) 25 3 (.slice (some ⟨gq, 0, none⟩) (vs.length + 1) cq) (vs.length + 1) (vs.flatMap encQ ++ [.bool x.neg, .string x.num, .string x.den])) (hb6 : Below (g9 + 1) wc w6) => (HIW.out.callB hb6 (by have := HG98.out; omega) (by
          have hgg := HG98.out
          intro x hx
          simp only [List.mem_cons, List.not_mem_nil, or_false] at hx
          rcases hx with rfl | rfl
          · exact Nat.lt_succ_self _
          · show g8 < g9 + 1; omega)))
        have HRL := Lib.hid (fun (gq cq : Nat) (w6 : World) (hn6 : w6.ownsRow (g9 + 1) 25 3 (.slice (some ⟨gq, 0, none⟩) (vs.length + 1) cq) (vs.length + 1) (vs.flatMap encQ ++ [.bool x.neg, .string x.num, .string x.den])) (hb6 : Below (g9 + 1) wc w6) => (show TbRel w1 g9 g8 #[.string nm, .bool px.neg, .string px.num, .string px.den, .bool py.neg, .string py.num, .string py.den, .bool hf, .bool t.neg, .string t.num, .string t.den, .slice (some ⟨b9, o, none⟩) L.length C] bq qs.length Cq cur L (.int .i64 ((vs.length : Int) + 1)) (w6.setCell ⟨g9, 1, none⟩ (.slice (some ⟨gq, 0, none⟩) (vs.length + 1) cq)) from by
          have hI6 := HPU.out gq cq w6 hn6 hb6
          have k1 := hI6.set (a := []) 1 (.slice (some ⟨gq, 0, none⟩) (vs.length + 1) cq)
          simp only [List.nil_append, List.setIfInBounds_toArray, List.set_cons_zero, List.set_cons_succ] at k1
          have hgr := grown_set w6 g9 1 (.slice (some ⟨gq, 0, none⟩) (vs.length + 1) cq)
          refine ⟨vs ++ [x], _, by simp, VsIn.snoc HVS.out HA.out HVA.out, fun v hv => ?_, k1, ?_, ?_, hbq9, by rw [World.size_setCell]; exact Nat.lt_of_lt_of_le (Nat.lt_of_succ_le hbase) hb6.size⟩
          · rcases List.mem_append.1 hv with h1 | h1
            · exact HV0.out v h1
            · rw [List.mem_singleton.1 h1]; exact HX0.out
          · have h6 := hn6.kept hgr (.inr (fun e => by have := (hn6.lt _ e).1; omega))
            simpa [encQ] using h6
          · exact (HSQ8.out.below hb6 (by omega)).far (p := ⟨g9, 1, none⟩) (show bq ≠ g9 from by omega) _))
        have hwk : IntKind.i64.wrap ((vs.length : Int) + 1) = (vs.length : Int) + 1 := by rw [IntKind.wrap_i64]; omega
        have fx := hK.facts
        simp only [factsOf, cellsOf, Nat.zero_add, Nat.reduceAdd] at fx
        clear hK
        go_wp2_with (at_builtin; refine wpList_push rfl (.tmp 72) (.tmp 74) 48 rfl (g9 + 1) 25 i0 (.agg #[.bool false, .string { data := #[] }, .string { data := #[] }]) 3 40 Tryd.underlying48 hi0 hz0 hz1 hz2 rfl (by omega) _ vs.length _ rfl Ho.out [.bool x.neg, .string x.num, .string x.den] rfl rfl (by simp [Value.oneCell']) (by unfold maxLen; omega) (by omega) hbase ?_; intro v6 w6 hn6 hb6 hsh6; obtain ⟨gq, cq, rfl, _, _⟩ := hsh6; have HX := Lib.hid (HRL.out gq cq w6 hn6 hb6); have hS6 := (HPU.out gq cq w6 hn6 hb6).take (a := [_]); have fx6 := hS6.facts; simp only [factsOf, cellsOf, Nat.zero_add, Nat.reduceAdd] at fx6; have hz6 := fun i => hS6.free (k := 0) (i := i) rfl; clear hS6 hn6 hb6)
        clear fx6 hz6
        go_roundw
        case rel => exact HX.out
        case measure => simp [intOf]; omega
    · have hle : vs.length = L.length := by have := hvs.1; omega
      have hi1 : ¬ (vs.length : Int) < (L.length : Int) := by omega
      obtain ⟨gv, Cv, rfl, _, _, _⟩ := own_shape hown (by omega)
      have HSQ := Lib.hid (SlQ.blk hsq HCU.out.1 HCU.out.2)
      have HSV := Lib.hid (SlQ.own hown)
      have HQA := Lib.hid (show qs.length = ar.L.length by rw [HLL.out]; exact HQL.out)
      have HVA := Lib.hid (show vs.length = ar.L.length by rw [HLL.out]; exact hle)
      have HVL := Lib.hid hle
      have HVS := Lib.hid hvs
      have HV0 := Lib.hid hv0
      have HLQ := Lib.hid (show ∀ x ∈ qs, x.le 20 from fun x hx => by
        obtain ⟨j, hj, rfl⟩ := List.getElem_of_mem hx
        have h1 : j < L.length := by rw [← HQL.out]; exact hj
        exact (HQS.out.2 j _ _ (List.getElem?_eq_getElem hj) (List.getElem?_eq_getElem h1)).2.1.more (by decide))
      have HLV := Lib.hid (show ∀ x ∈ vs, x.le 20 from fun x hx => by
        obtain ⟨j, hj, rfl⟩ := List.getElem_of_mem hx
        have h1 : j < L.length := by rw [← HVL.out]; exact hj
        exact (HVS.out.2 j _ _ (List.getElem?_eq_getElem hj) (List.getElem?_eq_getElem h1)).2.1)
      have HAB := Lib.hid (show ∀ (j : Nat) (x : Lk × List P2) (y : Q3), ar.L[j]? = some x → vs[j]? = some y → absQ y.q ≤ x.1.speed.q from fun j x y h1 h2 => by
        rw [HLL.out] at h1
        exact (HVS.out.2 j y x h2 h1).2.2)
      have HPC := Lib.hid (HSP.out wq hI.bel 20 (by decide) _ _ qs vs HSQ.out HSV.out HLQ.out HLV.out)
      have fx := hI.facts
      simp only [factsOf, cellsOf, Nat.zero_add, Nat.reduceAdd] at fx
      clear hown hsq hvs hv0 hle hi1
      have hi1 : ¬ (vs.length : Int) < (L.length : Int) := by have := HVL.out; omega
      go_wp2_with fail
      refine HPC.out.mono ?_
      rintro e w4 hp
      obtain ⟨vx, S1, rfl, hb, hS1l, hS1, hown1⟩ := spans_gen HG.out HQA.out HVA.out HAB.out hp
      obtain ⟨gx, cx, rfl, _, _, _⟩ := own_shape hown1 (by rw [hS1l]; exact HG.out.len.1)
      rw [HLL.out] at hS1l hS1
      have HX1 := Lib.hid (SlP.ownS hown1 rfl)
      replace hI := hI.call hb
      replace HSQ := Lib.hid (SlQ.up HSQ.out hb)
      replace HSV := Lib.hid (SlQ.up HSV.out hb)
      have HS1 := Lib.hid hS1
      have HSL := Lib.hid hS1l
      clear hb hp hown1 hS1 fx HPC
      have hq1 : ((S1.length : Int) != (L.length : Int)) = false := by simp [hS1l]
      clear hS1l
      have HL1 := Lib.hid (show ∀ (j : Nat) (x : Lk × List P2), L[j]? = some x → ∃ q0 v0 s, qs[j]? = some q0 ∧ vs[j]? = some v0 ∧ S1[j]? = some s ∧ SpanAt _ x.1 q0 v0 s ∧ q0.le 1 ∧ v0.le 20 ∧ absQ v0.q ≤ x.1.speed.q ∧ GenLk x.1 x.2 from fun j x h => by
        have hj := (List.getElem?_eq_some_iff.1 h).1
        have h4 : qs[j]? = some (qs[j]'(by rw [HQL.out]; exact hj)) := List.getElem?_eq_getElem _
        have h5 : vs[j]? = some (vs[j]'(by rw [HVL.out]; exact hj)) := List.getElem?_eq_getElem _
        have h6 : S1[j]? = some (S1[j]'(by rw [HSL.out]; exact hj)) := List.getElem?_eq_getElem _
        exact ⟨_, _, _, h4, h5, h6, HS1.out.2 j _ x _ _ h6 h h4 h5, (HQS.out.2 j _ x h4 h).2.1, (HVS.out.2 j _ x h5 h).2.1, (HVS.out.2 j _ x h5 h).2.2, HGL.out x (List.mem_of_getElem? h)⟩)
      have hst2 := Lib.hid (show MoRel w4 L.length L vs (.int .i64 0) (.int .i64 0) w4 from ⟨0, 0, Nat.zero_le _, rfl, rfl, by omega, fun j x v h => absurd h (Nat.not_lt_zero j), In.start w4⟩)
      have HT4 := Lib.hid (tabs w HT.out (HB1.out.trans (hI.bel.mono HB1.out.size)))
      have HI4 := Lib.hid hI
      have fx := hI.facts
      simp only [factsOf, cellsOf, Nat.zero_add, Nat.reduceAdd] at fx
      clear hI HLQ HLV HAB
      go_wp2_with fail
      clear fx
      go_loopw [100, 16] (fun i m wr => MoRel w4 L.length L vs i m wr) (fun i _ _ => L.length - (intOf i).toNat)
      case atStart => exact hst2.out
      case round =>
        clear hst2
        obtain ⟨k, M, hk, rfl, rfl, hM60, hMM, hJ⟩ := hrel
        obtain ⟨wp, rfl⟩ : ∃ wp, wp = wr := ⟨_, rfl⟩
        by_cases hin : k < L.length
        · as_aux_lemma =>
          have hi1 : (k : Int) < (L.length : Int) := by omega
          have hi2 : 0 ≤ (k : Int) ∧ (k : Int) < (L.length : Int) := by omega
          have hiv : 0 ≤ (k : Int) ∧ (k : Int) < (vs.length : Int) := by rw [HVL.out]; omega
          obtain ⟨⟨⟨klen, klow, khigh, kspeed, kbrake, kshape⟩, pts⟩, ha⟩ : ∃ x, L[k]? = some x := ⟨_, List.getElem?_eq_getElem hin⟩
          obtain ⟨q0, v, s, k1, k2, k3, k4, k5, k6, k7, k8⟩ := HL1.out k _ ha
          obtain ⟨A5, n5, c5, hk5, _⟩ := HSH.out _ (List.mem_of_getElem? ha)
          obtain rfl : kshape = .slice A5 n5 c5 := hk5
          obtain ⟨b9, o, hAe, hbB, hlc⟩ := Rd.lnk HRD.out (i := k) (k := ⟨klen, klow, khigh, kspeed, kbrake, .slice A5 n5 c5⟩) (by
            show (L.map (·.1))[k]? = _
            rw [HKS.out, ha]; rfl)
          have hbw := HI4.out.bel.trans (hJ.bel.mono HI4.out.bel.size)
          have hlc := hlc.below hbw hbB
          have hbn : b9 < wp.heap.size := Nat.lt_of_lt_of_le hbB hbw.size
          obtain ⟨f0, f1, f2, f3, f4, f5, f6, f7, f8, f9, f10, f11, f12, f13, f14, f15⟩ := hlc
          subst hAe
          have l5 : kbrake.le 1 := k8.le.1.2.2.2.2
          obtain ⟨n, e, hTI, TK⟩ := ticksR w4 HT4.out ⟨klen, klow, khigh, kspeed, kbrake, .slice A5 n5 c5⟩ v k6 l5
          have hTI : TicksIs kbrake.q v.q n e := hTI
          obtain ⟨b1, b2, _⟩ := k8.brake
          have b1 : 0 < kbrake.q := b1
          have b2 : 1 ≤ 100 * kbrake.q := b2
          have hs4 : kspeed.q ≤ 1 / 4 := k8.speed4
          have k7 : absQ v.q ≤ kspeed.q := k7
          obtain rfl := ticks_fine hTI b1 (by grind)
          have hn60 := ticks_60 k8 k7 hTI
          obtain ⟨M2, hM2⟩ : ∃ M2 : Nat, max (M : Int) n = (M2 : Int) := ⟨(max (M : Int) n).toNat, by omega⟩
          have HN := Lib.hid (show ∀ W, In w4 [] W → MoRel w4 L.length L vs (.int .i64 ((k : Int) + 1)) (.int .i64 (M2 : Int)) W from fun W hW => ⟨k + 1, M2, hin, by simp, rfl, by omega, fun j x u hj h1 h2 => by
            rcases Nat.lt_succ_iff_lt_or_eq.mp hj with h | h
            · obtain ⟨n', g1, g2⟩ := hMM j x u h h1 h2
              exact ⟨n', g1, by omega⟩
            · subst h
              rw [ha] at h1
              rw [k2] at h2
              cases h1
              cases h2
              exact ⟨n, hTI, by omega⟩, hW⟩)
          have TK : Hid (∀ W, Below w4.heap.size w4 W → Calls Tryd.prog 17 #[.agg #[.bool klen.neg, .string klen.num, .string klen.den, .bool klow.neg, .string klow.num, .string klow.den, .bool khigh.neg, .string khigh.num, .string khigh.den, .bool kspeed.neg, .string kspeed.num, .string kspeed.den, .bool kbrake.neg, .string kbrake.num, .string kbrake.den, .slice A5 n5 c5], .agg #[.bool v.neg, .string v.num, .string v.den]] W fun r w' => r = .returned (.tuple #[.int .i64 n, .int .i64 0]) ∧ Below W.heap.size W w') := TK
          obtain ⟨_, _, _, he2, _, _, _, hr2⟩ := HSV.out
          cases he2
          obtain ⟨_, _, he3, hbq, d0, d1, d2⟩ := Rd.quot hr2 k2
          cases he3
          rw [Nat.zero_add] at d0 d1 d2
          have hb1 := HI4.out.cell (k := 0) (i := 1) rfl rfl
          have hg9l := HI4.out.lt (k := 0) rfl
          have hb8 := HI4.out.cell (k := 1) (i := 11) rfl rfl
          have E := Lib.hid (fun W (hW : Below w4.heap.size w4 W) => (⟨(hW.cell (p := ⟨g9, 1, none⟩) hg9l).trans hb1, (hW.cell (p := ⟨gv, k * 3, none⟩) hbq).trans d0, (hW.cell (p := ⟨gv, k * 3 + 1, none⟩) hbq).trans d1, (hW.cell (p := ⟨gv, k * 3 + 2, none⟩) hbq).trans d2, Nat.lt_of_lt_of_le hbq hW.size⟩ : And _ (And _ (And _ (And _ _)))))
          have hwk : IntKind.i64.wrap ((k : Int) + 1) = (k : Int) + 1 := by rw [IntKind.wrap_i64]; omega
          replace hJ := hJ.alloc 28 #[.bool klen.neg, .string klen.num, .string klen.den, .bool klow.neg, .string klow.num, .string klow.den, .bool khigh.neg, .string khigh.num, .string khigh.den, .bool kspeed.neg, .string kspeed.num, .string kspeed.den, .bool kbrake.neg, .string kbrake.num, .string kbrake.den, .slice A5 n5 c5]
          obtain ⟨g18, hg18⟩ : ∃ g, g = wp.heap.size := ⟨_, rfl⟩
          clear hMM ha k1 k2 k3 k4 k5 k6 k7 k8 hTI b1 b2 hs4 hn60 hr2 hbq d0 d1 d2 hb1 hb8 hg9l l5
          go_upto_region 22 with (fail)
          clear f0 f1 f2 f3 f4 f5 f6 f7 f8 f9 f10 f11 f12 f13 f14 f15 hbn hbB
          rw [← hg18] at hJ ⊢
          generalize World.alloc _ _ = W5 at hJ ⊢
          clear hg18
          refine wp_region_in hJ (by kernel_rfl) (by kernel_rfl) ?_
          repeat (first
            | (refine wpSeq_off (by rfl) ?_; try simp only [Act.put, List.setIfInBounds_toArray, List.set_cons_zero, List.set_cons_succ])
            | (refine wpSeq_val (v := ?_) (by rfl) (fun W hS => ?_) ?_
               rotate_left
               · (have fx := hS.facts; simp only [factsOf, cellsOf, Nat.zero_add, Nat.reduceAdd] at fx; have fy0 := E.out W hS.bel; clear hS; go_simp; first | done | with_reducible rfl)
               try simp only [Act.put, List.setIfInBounds_toArray, List.set_cons_zero, List.set_cons_succ]))
          refine wpSeq_call (v := .tuple #[.int .i64 n, .int .i64 0]) (by rfl) (fun W hS => ?_) (fun W hS => (TK.out W hS.bel)) ?_
          · (clear hS; go_simp; done)
          try simp only [Act.put, List.setIfInBounds_toArray, List.set_cons_zero, List.set_cons_succ]
          repeat (first
            | (refine wpSeq_off (by rfl) ?_; try simp only [Act.put, List.setIfInBounds_toArray, List.set_cons_zero, List.set_cons_succ])
            | (refine wpSeq_val (v := ?_) (by rfl) (fun W hS => ?_) ?_
               rotate_left
               · (have fx := hS.facts; simp only [factsOf, cellsOf, Nat.zero_add, Nat.reduceAdd] at fx; have fy0 := E.out W hS.bel; clear hS; go_simp; first | done | with_reducible rfl)
               try simp only [Act.put, List.setIfInBounds_toArray, List.set_cons_zero, List.set_cons_succ]))
          refine wpSeq_nil (fun W hS => ?_)
          have HX := Lib.hid (HN.out _ hS.tail)
          clear hS hJ E TK
          go_wp2_with fail
          go_roundw
          case rel => exact HX.out
          case measure => simp [intOf]; omega
        · obtain rfl : k = L.length := by omega
          have hi2 : ¬ (L.length : Int) < (L.length : Int) := by omega
          have HMM := Lib.hid (show ∀ (j : Nat) (x : Lk × List P2) (v : Q3), L[j]? = some x → vs[j]? = some v → ∃ n : Int, TicksIs x.1.brake.q v.q n 0 ∧ n ≤ M from fun j x v h1 h2 => hMM j x v (List.getElem?_eq_some_iff.1 h1).1 h1 h2)
          have hI := HI4.out.call hJ.bel
          have hst3 := Lib.hid (show HoRel w1 g9 g8 #[.string nm, .bool px.neg, .string px.num, .string px.den, .bool py.neg, .string py.num, .string py.den, .bool hf, .bool t.neg, .string t.num, .string t.den, .slice A L.length C] gx cx S1 L qs vs M (.int .i64 0) wp from ⟨0, qs, vs, some ⟨bq, 0, none⟩, Cq, some ⟨gv, 0, none⟩, Cv, rfl, Nat.zero_le _, hI, SlQ.up HSQ.out hJ.bel, SlQ.up HSV.out hJ.bel, SlP.up HX1.out hJ.bel, HQL.out, HVL.out, fun j x q0 v0 q v h1 h2 h3 h4 h5 => by
            rw [h2] at h4
            rw [h3] at h5
            cases h4
            cases h5
            exact ⟨rfl, rfl, (HQS.out.2 j q0 x h2 h1).1, (HVS.out.2 j v0 x h3 h1).1⟩⟩)
          clear hI hJ hMM
          obtain ⟨qs0, hqs0⟩ : ∃ l, l = qs := ⟨_, rfl⟩
          obtain ⟨vs0, hvs0⟩ : ∃ l, l = vs := ⟨_, rfl⟩
          rw [← hqs0, ← hvs0] at hst3 HL1
          rw [← hvs0] at HMM
          clear hqs0 hvs0 HX1 HSQ HSV
          go_wp2_with fail
          go_loopw [122] (fun i wr => HoRel w1 g9 g8 #[.string nm, .bool px.neg, .string px.num, .string px.den, .bool py.neg, .string py.num, .string py.den, .bool hf, .bool t.neg, .string t.num, .string t.den, .slice A L.length C] gx cx S1 L qs0 vs0 M i wr) (fun i _ => M - (intOf i).toNat)
          case atStart => exact hst3.out
          case round =>
            clear hst3
            obtain ⟨t9, ql, vl, Aq9, Cq9, Av9, Cv9, rfl, ht, hI, hsq, hsv, hsp, hql, hvl, hh⟩ := hrel
            have HH := Lib.hid hh
            have HQL := Lib.hid hql
            have HVL := Lib.hid hvl
            have HLE := Lib.hid (show ∀ (j : Nat) (q v : Q3), ql[j]? = some q → vl[j]? = some v → q.le 4000 ∧ v.le 4000 from fun j q v h1 h2 => by
              have hj := (List.getElem?_eq_some_iff.1 h1).1
              obtain ⟨q0, v0, s, k1, k2, k3, k4, k5, k6, k7, k8⟩ := HL1.out j _ (List.getElem?_eq_getElem (by rw [← HQL.out]; exact hj))
              exact (HH.out j _ q0 v0 q v (List.getElem?_eq_getElem (by rw [← HQL.out]; exact hj)) k1 k2 h1 h2).le k8.brake.1 k8.le.1.2.2.2.2 k5 k6 (by omega))
            clear hh hql hvl
            obtain ⟨wq3, rfl⟩ : ∃ wq3, wq3 = wr := ⟨_, rfl⟩
            have HSQ := Lib.hid hsq
            have HSV := Lib.hid hsv
            have HSP9 := Lib.hid hsp
            have HI := Lib.hid hI
            have HTQ := Lib.hid (tabs w HT.out (HB1.out.trans (hI.bel.mono HB1.out.size)))
            clear hsq hsv hsp
            by_cases htM : t9 < M
            · as_aux_lemma =>
              have hti : (t9 : Int) < (M : Int) := by omega
              have HBC := Lib.hid (HBK.out wq3 hI.bel 4000 (by decide) _ _ ql vl false (-1) HSQ.out HSV.out (fun x hx => by
                obtain ⟨j, hj, rfl⟩ := List.getElem_of_mem hx
                exact (HLE.out j _ _ (List.getElem?_eq_getElem hj) (List.getElem?_eq_getElem (by rw [HVL.out, ← HQL.out]; exact hj))).1) (fun x hx => by
                obtain ⟨j, hj, rfl⟩ := List.getElem_of_mem hx
                exact (HLE.out j _ _ (List.getElem?_eq_getElem (by rw [HQL.out, ← HVL.out]; exact hj)) (List.getElem?_eq_getElem hj)).2))
              have fx := hI.facts
              simp only [factsOf, cellsOf, Nat.zero_add, Nat.reduceAdd] at fx
              go_wp2_with fail
              refine HBC.out.mono ?_
              rintro e w5 hp
              obtain ⟨vq2, vv2, qs2, vs2, rfl, hb, hsq2, hsv2, hto⟩ := brake_gen HG.out (by rw [HLL.out]; exact HQL.out) (by rw [HLL.out]; exact HVL.out) hp
              rw [HLL.out] at hto
              obtain ⟨Aq2, nq2, Cq2, rfl, hnq2, _⟩ := id hsq2
              obtain ⟨Av2, nv2, Cv2, rfl, hnv2, _⟩ := id hsv2
              subst hnq2 hnv2
              replace hI := (hI.call hb).alloc 61 #[.slice Aq2 qs2.length Cq2, .slice Av2 vs2.length Cv2, .bool false, .int .i64 (-1)]
              have hba : Below w5.heap.size w5 (w5.alloc (.cells #[.slice Aq2 qs2.length Cq2, .slice Av2 vs2.length Cv2, .bool false, .int .i64 (-1)] 61)) := (Below.refl _ _).alloc (Nat.le_refl _) _
              have HSQ2 := Lib.hid (SlQ.up hsq2 hba)
              have HSV2 := Lib.hid (SlQ.up hsv2 hba)
              have HSP8 := Lib.hid (SlP.up (SlP.up HSP9.out hb) hba)
              have HTO := Lib.hid hto
              clear hb hp hsq2 hsv2 hba hto fx HBC
              obtain ⟨g21, hg21⟩ : ∃ g, g = w5.heap.size := ⟨_, rfl⟩
              go_upto_region 30 with (fail)
              rw [← hg21] at hI ⊢
              generalize World.alloc _ _ = W5 at hI HSQ2 HSV2 HSP8 ⊢
              clear hg21
              have hl2 : qs2.length = L.length := by rw [HTO.out.1]; exact HQL.out
              have hl3 : vs2.length = L.length := by rw [HTO.out.2.1, HVL.out]
              have hq2 : ((qs2.length : Int) != (L.length : Int)) = false := by simp [hl2]
              have hq3 : ((vs2.length : Int) != (L.length : Int)) = false := by simp [hl3]
              have hwt : IntKind.i64.wrap ((t9 : Int) + 1) = (t9 : Int) + 1 := by rw [IntKind.wrap_i64]; omega
              have fx := hI.facts
              simp only [factsOf, cellsOf, Nat.zero_add, Nat.reduceAdd] at fx
              have hz := fun i => hI.free (k := 1) (i := i) rfl
              have hbk := hI.blkAt (k := 1) rfl
              have hgr := grown4 W5 g9 (.slice Aq2 qs2.length Cq2) (.slice Av2 vs2.length Cv2) (.bool false) (.int .i64 (-1))
              have HI7 := Lib.hid ((hI.all4 (a := [_]) (.slice Aq2 qs2.length Cq2) (.slice Av2 vs2.length Cv2) (.bool false) (.int .i64 (-1))).tail)
              have HSQ7 := Lib.hid (SlQ.far HSQ2.out (by omega) hbk hgr)
              have HSV7 := Lib.hid (SlQ.far HSV2.out (by omega) hbk hgr)
              have HSP7 := Lib.hid (SlP.far HSP8.out (by have := HSL.out; omega) hbk hgr)
              have HL2 := Lib.hid (And.intro hl2 hl3)
              clear hI hbk hgr hl2 hl3 HSQ2 HSV2 HSP8
              go_upto_region 33 with (fail)
              clear fx hz
              have hI : In w1 [(g9, 61, #[.slice Aq2 qs2.length Cq2, .slice Av2 vs2.length Cv2, .bool false, .int .i64 (-1)]), (g8, 37, #[.string nm, .bool px.neg, .string px.num, .string px.den, .bool py.neg, .string py.num, .string py.den, .bool hf, .bool t.neg, .string t.num, .string t.den, .slice A L.length C])] _ := HI7.out
              have hsq7 := HSQ7.out
              have hsv7 := HSV7.out
              have hsp7 := HSP7.out
              clear HI7 HSQ7 HSV7 HSP7
              generalize World.setCell _ _ _ = W7 at hI hsq7 hsv7 hsp7 ⊢
              have HSQ7 := Lib.hid hsq7
              have HSV7 := Lib.hid hsv7
              have HSP7 := Lib.hid hsp7
              have HI7 := Lib.hid hI
              have HT7 := Lib.hid (tabs w HT.out (HB1.out.trans (hI.bel.mono HB1.out.size)))
              have HH7 := Lib.hid (show ∀ (j : Nat) (x : Lk × List P2) (q0 v0 q' v' : Q3), L[j]? = some x → qs0[j]? = some q0 → vs0[j]? = some v0 → qs2[j]? = some q' → vs2[j]? = some v' → HoldAt x.1 q0 v0 (t9 + 1) q' v' from fun j x q0 v0 q' v' h1 h2 h3 h4 h5 => by
                have hj := (List.getElem?_eq_some_iff.1 h1).1
                have a1 : ql[j]? = some (ql[j]'(by rw [HQL.out]; exact hj)) := List.getElem?_eq_getElem _
                have a2 : vl[j]? = some (vl[j]'(by rw [HVL.out]; exact hj)) := List.getElem?_eq_getElem _
                exact (HH.out j x q0 v0 _ _ h1 h2 h3 a1 a2).step (HGL.out x (List.mem_of_getElem? h1)).brake.1 (HTO.out.2.2.1 j x _ _ q' v' hj h1 a1 a2 h4 h5))
              have hst4 := Lib.hid (show LsRel W7 qs2.length (.int .i64 0) W7 from ⟨0, Nat.zero_le _, rfl, In.start W7⟩)
              have fx := hI.facts
              simp only [factsOf, cellsOf, Nat.zero_add, Nat.reduceAdd] at fx
              clear hI hsq7 hsv7 hsp7 HSQ HSV HSP9 HI HTQ
              go_wp2_with fail
              clear fx
              go_loopw [154] (fun i wx => LsRel W7 qs2.length i wx) (fun i _ => qs2.length - (intOf i).toNat)
              case atStart => exact hst4.out
              case round =>
                as_aux_lemma =>
                clear hst4
                obtain ⟨k, hk, rfl, hJ⟩ := hrel
                by_cases hin : k < qs2.length
                · have hi1 : (k : Int) < (qs2.length : Int) := by omega
                  have hi2 : 0 ≤ (k : Int) ∧ (k : Int) < (qs2.length : Int) := by omega
                  have hi3 : 0 ≤ (k : Int) ∧ (k : Int) < (S1.length : Int) := by have h1 := HSL.out; have h2 := HL2.out.1; omega
                  obtain ⟨q, hq⟩ : ∃ q, qs2[k]? = some q := ⟨_, List.getElem?_eq_getElem hin⟩
                  obtain ⟨x, hx⟩ : ∃ x, L[k]? = some x := ⟨_, List.getElem?_eq_getElem (by rw [← HL2.out.1]; exact hin)⟩
                  obtain ⟨v, hv⟩ : ∃ v, vs2[k]? = some v := ⟨_, List.getElem?_eq_getElem (by rw [HL2.out.2, ← HL2.out.1]; exact hin)⟩
                  obtain ⟨q0, v0, s, k1, k2, k3, k4, k5, k6, k7, k8⟩ := HL1.out k x hx
                  have hha := HH7.out k x q0 v0 q v hx k1 k2 hq hv
                  obtain ⟨m1, m2⟩ := hold_span hha k4
                  have lq := (hha.le k8.brake.1 k8.le.1.2.2.2.2 k5 k6 (by omega)).1
                  obtain ⟨_, _, _, _, ⟨c1, c2⟩, l1, l2⟩ := k4
                  have H1 := hasT W7 HT7.out s.x s.y q c1 c2 (N := 4000) (l1.more (by decide)) (l2.more (by decide)) lq m1 m2
                  obtain ⟨_, _, _, he1, _, _, _, hr1⟩ := HSP7.out
                  cases he1
                  obtain ⟨_, _, he1, hgx, e0, e1, e2, e3, e4, e5⟩ := Rd.pt hr1 k3
                  cases he1
                  obtain ⟨_, _, _, he2, _, _, _, hr2⟩ := HSQ7.out
                  cases he2
                  obtain ⟨bq, oq, rfl, hbq, d0, d1, d2⟩ := Rd.quot hr2 hq
                  have x0 := (hJ.bel.cell (p := ⟨bq, oq + k * 3, none⟩) hbq).trans d0
                  have x1 := (hJ.bel.cell (p := ⟨bq, oq + k * 3 + 1, none⟩) hbq).trans d1
                  have x2 := (hJ.bel.cell (p := ⟨bq, oq + k * 3 + 2, none⟩) hbq).trans d2
                  have hbn : bq < wr.heap.size := Nat.lt_of_lt_of_le hbq hJ.bel.size
                  rw [Nat.zero_add] at e0 e1 e2 e3 e4 e5
                  have E := Lib.hid (fun W (hW : Below W7.heap.size W7 W) => (⟨(hW.cell (p := ⟨gx, k * 6, none⟩) hgx).trans e0, (hW.cell (p := ⟨gx, k * 6 + 1, none⟩) hgx).trans e1, (hW.cell (p := ⟨gx, k * 6 + 2, none⟩) hgx).trans e2, (hW.cell (p := ⟨gx, k * 6 + 3, none⟩) hgx).trans e3, (hW.cell (p := ⟨gx, k * 6 + 4, none⟩) hgx).trans e4, (hW.cell (p := ⟨gx, k * 6 + 5, none⟩) hgx).trans e5⟩ : And _ (And _ (And _ (And _ (And _ (_)))))))
                  have hwk : IntKind.i64.wrap ((k : Int) + 1) = (k : Int) + 1 := by have h2 := HL2.out.1; rw [IntKind.wrap_i64]; omega
                  have HN := Lib.hid (show ∀ W, In W7 [] W → LsRel W7 qs2.length (.int .i64 ((k : Int) + 1)) W from fun W hW => ⟨k + 1, hin, by simp, hW⟩)
                  replace hJ := hJ.alloc 25 #[.bool q.neg, .string q.num, .string q.den]
                  clear hha hq hx hv k1 k2 k3 k5 k6 k7 k8 m1 m2 c1 c2 l1 l2 lq hr1 hr2 e0 e1 e2 e3 e4 e5 d0 d1 d2 hgx hbq
                  obtain ⟨g24, hg24⟩ : ∃ g, g = wr.heap.size := ⟨_, rfl⟩
                  go_upto_region 36 with (fail)
                  clear x0 x1 x2 hbn
                  rw [← hg24] at hJ ⊢
                  generalize World.alloc _ _ = W9 at hJ ⊢
                  clear hg24
                  refine wp_region_in hJ (by kernel_rfl) (by kernel_rfl) ?_
                  repeat (first
                    | (refine wpSeq_off (by rfl) ?_; try simp only [Act.put, List.setIfInBounds_toArray, List.set_cons_zero, List.set_cons_succ])
                    | (refine wpSeq_val (v := ?_) (by rfl) (fun W hS => ?_) ?_
                       rotate_left
                       · (have fx := hS.facts; simp only [factsOf, cellsOf, Nat.zero_add, Nat.reduceAdd] at fx; have fy0 := E.out W hS.bel; clear hS; go_simp; first | done | with_reducible rfl)
                       try simp only [Act.put, List.setIfInBounds_toArray, List.set_cons_zero, List.set_cons_succ]))
                  refine wpSeq_call (v := .bool true) (by rfl) (fun W hS => ?_) (fun W hS => (H1.out W hS.bel)) ?_
                  · (clear hS; go_simp; done)
                  try simp only [Act.put, List.setIfInBounds_toArray, List.set_cons_zero, List.set_cons_succ]
                  repeat (first
                    | (refine wpSeq_off (by rfl) ?_; try simp only [Act.put, List.setIfInBounds_toArray, List.set_cons_zero, List.set_cons_succ])
                    | (refine wpSeq_val (v := ?_) (by rfl) (fun W hS => ?_) ?_
                       rotate_left
                       · (have fx := hS.facts; simp only [factsOf, cellsOf, Nat.zero_add, Nat.reduceAdd] at fx; have fy0 := E.out W hS.bel; clear hS; go_simp; first | done | with_reducible rfl)
                       try simp only [Act.put, List.setIfInBounds_toArray, List.set_cons_zero, List.set_cons_succ]))
                  refine wpSeq_nil (fun W hS => ?_)
                  have HX := Lib.hid (HN.out _ hS.tail)
                  clear hS hJ E H1
                  go_wp2_with fail
                  go_roundw
                  case rel => exact HX.out
                  case measure => simp [intOf]; omega
                · obtain rfl : k = qs2.length := by omega
                  have hi1 : ¬ (qs2.length : Int) < (qs2.length : Int) := by omega
                  have HX := Lib.hid (show HoRel w1 g9 g8 _ gx cx S1 L qs0 vs0 M (.int .i64 ((t9 : Int) + 1)) wr from ⟨t9 + 1, qs2, vs2, Aq2, Cq2, Av2, Cv2, by simp, htM, HI7.out.call hJ.bel, SlQ.up HSQ7.out hJ.bel, SlQ.up HSV7.out hJ.bel, SlP.up HSP7.out hJ.bel, HL2.out.1, HL2.out.2, HH7.out⟩)
                  clear hJ
                  go_wp2_with fail
                  go_roundw
                  case rel => exact HX.out
                  case measure => simp [intOf]; omega
            · obtain rfl : t9 = M := by omega
              have hti : ¬ (t9 : Int) < (t9 : Int) := by omega
              have hst5 := Lib.hid (show LsRel wq3 S1.length (.int .i64 0) wq3 from ⟨0, Nat.zero_le _, rfl, In.start wq3⟩)
              have HFI := Lib.hid (show ∀ (j : Nat) (q v : Q3) (s : P2), ql[j]? = some q → vl[j]? = some v → S1[j]? = some s → v = z0 ∧ (q = s.x ∨ q = s.y) from fun j q v s h1 h2 h3 => by
                have hj := (List.getElem?_eq_some_iff.1 h1).1
                rw [HQL.out] at hj
                obtain ⟨q0, v0, s', k1, k2, k3, k4, k5, k6, k7, k8⟩ := HL1.out j _ (List.getElem?_eq_getElem hj)
                rw [h3] at k3
                cases k3
                obtain ⟨n, t1, t2⟩ := HMM.out j _ v0 (List.getElem?_eq_getElem hj) k2
                have hha := HH.out j _ q0 v0 q v (List.getElem?_eq_getElem hj) k1 k2 h1 h2
                obtain ⟨f1, f2⟩ := hold_fin hha t1 t2 k4
                exact ⟨hha.2.2.2.eq HZ0.out.2 (by rw [f1, HZ0.out.1]), f2⟩)
              have OZ2 := Lib.hid (fun (W : World) (_ : Below wq3.heap.size wq3 W) => OZ.out W)
              have HBQ := Lib.hid (HB1.out.trans (hI.bel.mono HB1.out.size))
              have HSL3 := Lib.hid (And.intro HSL.out (And.intro HQL.out HVL.out))
              clear HL1 HMM HH HLE
              go_wp2_with fail
              go_loopw [170] (fun i wx => LsRel wq3 S1.length i wx) (fun i _ => S1.length - (intOf i).toNat)
              case atStart => exact hst5.out
              case round =>
                as_aux_lemma =>
                clear hst5
                obtain ⟨k, hk, rfl, hJ⟩ := hrel
                by_cases hin : k < S1.length
                · have hi1 : (k : Int) < (S1.length : Int) := by omega
                  have hi2 : 0 ≤ (k : Int) ∧ (k : Int) < (S1.length : Int) := by omega
                  have hi3 : 0 ≤ (k : Int) ∧ (k : Int) < (ql.length : Int) := by have h := HSL3.out; omega
                  have hi4 : 0 ≤ (k : Int) ∧ (k : Int) < (vl.length : Int) := by have h := HSL3.out; omega
                  obtain ⟨q, hq⟩ : ∃ q, ql[k]? = some q := ⟨_, List.getElem?_eq_getElem (by omega)⟩
                  obtain ⟨v, hv⟩ : ∃ v, vl[k]? = some v := ⟨_, List.getElem?_eq_getElem (by omega)⟩
                  obtain ⟨⟨sx, sy⟩, hs⟩ : ∃ s, S1[k]? = some s := ⟨_, List.getElem?_eq_getElem hin⟩
                  obtain ⟨hvz, hqs⟩ := HFI.out k q v _ hq hv hs
                  have hqs : q = sx ∨ q = sy := hqs
                  subst hvz
                  obtain ⟨_, _, _, he1, _, _, _, hr1⟩ := HSP9.out
                  cases he1
                  obtain ⟨_, _, he1, hgx, e0, e1, e2, e3, e4, e5⟩ := Rd.pt hr1 hs
                  cases he1
                  obtain ⟨_, _, _, he2, _, _, _, hr2⟩ := HSQ.out
                  cases he2
                  obtain ⟨bq2, oq, rfl, hbq, d0, d1, d2⟩ := Rd.quot hr2 hq
                  obtain ⟨_, _, _, he3, _, _, _, hr3⟩ := HSV.out
                  cases he3
                  obtain ⟨bv2, ov, rfl, hbv, c0, c1, c2⟩ := Rd.quot hr3 hv
                  have hb0 := HI.out.cell (k := 0) (i := 0) rfl rfl
                  have hb1 := HI.out.cell (k := 0) (i := 1) rfl rfl
                  have hg9l := HI.out.lt (k := 0) rfl
                  rw [Nat.zero_add] at e0 e1 e2 e3 e4 e5
                  have E := Lib.hid (fun W (hW : Below wq3.heap.size wq3 W) => (⟨(hW.cell (p := ⟨gx, k * 6, none⟩) hgx).trans e0, (hW.cell (p := ⟨gx, k * 6 + 1, none⟩) hgx).trans e1, (hW.cell (p := ⟨gx, k * 6 + 2, none⟩) hgx).trans e2, (hW.cell (p := ⟨gx, k * 6 + 3, none⟩) hgx).trans e3, (hW.cell (p := ⟨gx, k * 6 + 4, none⟩) hgx).trans e4, (hW.cell (p := ⟨gx, k * 6 + 5, none⟩) hgx).trans e5,
                    (hW.cell (p := ⟨bq2, oq + k * 3, none⟩) hbq).trans d0, (hW.cell (p := ⟨bq2, oq + k * 3 + 1, none⟩) hbq).trans d1, (hW.cell (p := ⟨bq2, oq + k * 3 + 2, none⟩) hbq).trans d2, (hW.cell (p := ⟨bv2, ov + k * 3, none⟩) hbv).trans c0, (hW.cell (p := ⟨bv2, ov + k * 3 + 1, none⟩) hbv).trans c1, (hW.cell (p := ⟨bv2, ov + k * 3 + 2, none⟩) hbv).trans c2, (hW.cell (p := ⟨g9, 0, none⟩) hg9l).trans hb0, (hW.cell (p := ⟨g9, 1, none⟩) hg9l).trans hb1, Nat.lt_of_lt_of_le hbq hW.size, Nat.lt_of_lt_of_le hbv hW.size, Nat.lt_of_lt_of_le hgx hW.size⟩ : And _ (And _ (And _ (And _ (And _ (And _ (And _ (And _ (And _ (And _ (And _ (And _ (And _ (And _ (And _ (And _ _)))))))))))))))))
                  have hwk : IntKind.i64.wrap ((k : Int) + 1) = (k : Int) + 1 := by have h2 := HSL3.out; rw [IntKind.wrap_i64]; omega
                  have HN := Lib.hid (show ∀ W, In wq3 [] W → LsRel wq3 S1.length (.int .i64 ((k : Int) + 1)) W from fun W hW => ⟨k + 1, hin, by simp, hW⟩)
                  have ge := guard_quot
                  have hn1 := fun W => neq_quot W v
                  clear hq hv hs hr1 hr2 hr3 hb0 hb1 hg9l e0 e1 e2 e3 e4 e5 d0 d1 d2 c0 c1 c2 hgx hbq hbv
                  go_upto_region 43 with (fail)
                  by_cases hqx : q = sx
                  · clear hqs
                    subst hqx
                    have hn2 := fun W => neq_quot W q
                    refine wp_region_in hJ (by kernel_rfl) (by kernel_rfl) ?_
                    repeat (first
                      | (refine wpSeq_off (by rfl) ?_; try simp only [Act.put, List.setIfInBounds_toArray, List.set_cons_zero, List.set_cons_succ])
                      | (refine wpSeq_val (v := ?_) (by rfl) (fun W hS => ?_) ?_
                         rotate_left
                         · (have fx := hS.facts; simp only [factsOf, cellsOf, Nat.zero_add, Nat.reduceAdd] at fx; have fy0 := E.out W hS.bel; clear hS; go_simp; first | done | with_reducible rfl)
                         try simp only [Act.put, List.setIfInBounds_toArray, List.set_cons_zero, List.set_cons_succ]))
                    refine wpSeq_call (v := .agg #[.bool v.neg, .string v.num, .string v.den]) (by rfl) (fun W hS => ?_) (fun W hS => (OZ2.out W hS.bel)) ?_
                    · (clear hS; go_simp; done)
                    try simp only [Act.put, List.setIfInBounds_toArray, List.set_cons_zero, List.set_cons_succ]
                    repeat (first
                      | (refine wpSeq_off (by rfl) ?_; try simp only [Act.put, List.setIfInBounds_toArray, List.set_cons_zero, List.set_cons_succ])
                      | (refine wpSeq_val (v := ?_) (by rfl) (fun W hS => ?_) ?_
                         rotate_left
                         · (have fx := hS.facts; simp only [factsOf, cellsOf, Nat.zero_add, Nat.reduceAdd] at fx; have fy0 := E.out W hS.bel; clear hS; go_simp; first | done | with_reducible rfl)
                         try simp only [Act.put, List.setIfInBounds_toArray, List.set_cons_zero, List.set_cons_succ]))
                    refine wpSeq_nil (fun W hS => ?_)
                    have HX := Lib.hid (HN.out _ hS)
                    clear hS hJ E
                    go_wp2_with fail
                    go_roundw
                    case rel => exact HX.out
                    case measure => simp [intOf]; omega
                  · obtain rfl : q = sy := hqs.resolve_left hqx
                    have hn2 := fun W => neq_diff W q sx hqx
                    have hn3 := fun W => neq_quot W q
                    clear hqs
                    refine wp_region_in hJ (by kernel_rfl) (by kernel_rfl) ?_
                    repeat (first
                      | (refine wpSeq_off (by rfl) ?_; try simp only [Act.put, List.setIfInBounds_toArray, List.set_cons_zero, List.set_cons_succ])
                      | (refine wpSeq_val (v := ?_) (by rfl) (fun W hS => ?_) ?_
                         rotate_left
                         · (have fx := hS.facts; simp only [factsOf, cellsOf, Nat.zero_add, Nat.reduceAdd] at fx; have fy0 := E.out W hS.bel; clear hS; go_simp; first | done | with_reducible rfl)
                         try simp only [Act.put, List.setIfInBounds_toArray, List.set_cons_zero, List.set_cons_succ]))
                    refine wpSeq_call (v := .agg #[.bool v.neg, .string v.num, .string v.den]) (by rfl) (fun W hS => ?_) (fun W hS => (OZ2.out W hS.bel)) ?_
                    · (clear hS; go_simp; done)
                    try simp only [Act.put, List.setIfInBounds_toArray, List.set_cons_zero, List.set_cons_succ]
                    repeat (first
                      | (refine wpSeq_off (by rfl) ?_; try simp only [Act.put, List.setIfInBounds_toArray, List.set_cons_zero, List.set_cons_succ])
                      | (refine wpSeq_val (v := ?_) (by rfl) (fun W hS => ?_) ?_
                         rotate_left
                         · (have fx := hS.facts; simp only [factsOf, cellsOf, Nat.zero_add, Nat.reduceAdd] at fx; have fy0 := E.out W hS.bel; clear hS; go_simp; first | done | with_reducible rfl)
                         try simp only [Act.put, List.setIfInBounds_toArray, List.set_cons_zero, List.set_cons_succ]))
                    refine wpSeq_nil (fun W hS => ?_)
                    have HX := Lib.hid (HN.out _ hS)
                    clear hS hJ E
                    go_wp2_with fail
                    go_roundw
                    case rel => exact HX.out
                    case measure => simp [intOf]; omega
                · obtain rfl : k = S1.length := by omega
                  have hi1 : ¬ (S1.length : Int) < (S1.length : Int) := by omega
                  have hfin := HBQ.out.trans (hJ.bel.mono HBQ.out.size)
                  clear hJ
                  go_wp2
                  go_ret
                  exact ⟨rfl, hfin⟩
end Go.Proofs.YtnnbnecpcppkdaaDoor.topBrakes
