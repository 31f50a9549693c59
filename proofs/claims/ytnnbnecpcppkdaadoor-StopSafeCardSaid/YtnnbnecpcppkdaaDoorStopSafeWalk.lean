/- StopSafe: the walk. Conditions: those typed. -/
import Derived.Test.YtnnbnecpcppkdaaDoorConfM
import Derived.Test.YtnnbnecpcppkdaaDoorFastR
import Derived.Test.YtnnbnecpcppkdaaDoorArgQ
namespace Go.Proofs.YtnnbnecpcppkdaaDoor.stopSafe
open Go.RowKit Go.Gy
set_option linter.unusedVariables false
theorem speed_gen {k : Lk} {l : List P2} (h : GenLk k l) : 0 < k.speed.q ∧ k.speed.q ≤ 1 ∧ floorE (k.speed.q * ((64 : Int) : Rat)) = 0 ∧ 0 ≤ floorN (k.speed.q * ((64 : Int) : Rat)) ∧ floorN (k.speed.q * ((64 : Int) : Rat)) ≤ 6400 ∧ ((floorN (k.speed.q * ((64 : Int) : Rat)) : Int) : Rat) ≤ k.speed.q * 64 := by
  obtain ⟨c, a, e, d, f, zs, _, _, _, hd, _, ⟨_, _, _, hs, _⟩, _⟩ := h
  rw [hs]
  obtain ⟨m, hm⟩ : ∃ m, m = (4 + d).toNat := ⟨_, rfl⟩
  rw [← hm]
  have hm1 : 4 ≤ m ∧ m ≤ 11 := by omega
  have key : ∀ m : Fin 12, 4 ≤ m.val → (0 < mkRat 1 m.val ∧ mkRat 1 m.val ≤ 1 ∧ floorE (mkRat 1 m.val * ((64 : Int) : Rat)) = 0 ∧ 0 ≤ floorN (mkRat 1 m.val * ((64 : Int) : Rat)) ∧ floorN (mkRat 1 m.val * ((64 : Int) : Rat)) ≤ 6400 ∧ ((floorN (mkRat 1 m.val * ((64 : Int) : Rat)) : Int) : Rat) ≤ mkRat 1 m.val * 64) := by decide +kernel
  exact key ⟨m, by omega⟩ hm1.1
/-- what Fast answers, at a link that gantmake.Arm makes -/
theorem fast_safe {k : Lk} {l : List P2} (h : GenLk k l) {q : Q3} (hq : QIn k q) {way : Int} (hw : way = 1 ∨ way = -1) {x : Q3} (hF : FastIs k.brake.q k.low.q k.high.q k.speed.q q.q way x 0) :
    x.can ∧ x.le 16 ∧ 0 ≤ x.q ∧ x.q ≤ k.speed.q ∧ FitP k.brake.q k.low.q k.high.q q.q (x.q * (way : Rat)) ∧ absQ (x.q * (way : Rat)) ≤ 2000 * k.brake.q := by
  obtain ⟨s1, s2, _, _, _, s6⟩ := speed_gen h
  obtain ⟨b1, b2, b3⟩ := h.brake
  rcases hF with ⟨_, _, h3⟩ | ⟨_, _, _, _, _, h6⟩ | ⟨_, _, _, _, _, _, hc, hl, a, ha, han, hxa, hfit, _⟩
  · omega
  · omega
  have e64 : ((64 : Int) : Rat) = 64 := rfl
  have hx64 : x.q * 64 = (a : Rat) := by
    rw [hxa, e64]
    exact Rat.div_mul_cancel (by decide +kernel)
  have ha0 : ((0 : Int) : Rat) ≤ (a : Rat) := Rat.intCast_le_intCast.mpr ha
  have han2 : (a : Rat) ≤ ((floorN (k.speed.q * ((64 : Int) : Rat)) : Int) : Rat) := Rat.intCast_le_intCast.mpr han
  have e0 : ((0 : Int) : Rat) = 0 := rfl
  rw [e0] at ha0
  have hx0 : 0 ≤ x.q := by grind
  have hxs : x.q ≤ k.speed.q := by grind
  have hwq : (way : Rat) = 1 ∨ (way : Rat) = -1 := by
    rcases hw with rfl | rfl
    · exact .inl rfl
    · exact .inr rfl
  have hxw : ((a * way : Int) : Rat) / ((64 : Int) : Rat) = x.q * (way : Rat) := by
    rw [Rat.intCast_mul, ← hx64, e64, Rat.mul_assoc, Rat.mul_comm 64, ← Rat.mul_assoc, Rat.mul_div_cancel (by decide +kernel)]
  refine ⟨hc, hl, hx0, hxs, ?_, ?_⟩
  · rw [← hxw]
    rcases hfit with h0 | h0
    · subst h0
      rw [Int.zero_mul, show (((0 : Int) : Rat) / ((64 : Int) : Rat)) = 0 by decide +kernel]
      exact fit_zero b1 ⟨hq.2.2.1, hq.2.2.2⟩
    · exact h0
  · rcases hwq with h1 | h1
    · rw [h1, Rat.mul_one]
      unfold absQ
      split <;> grind
    · rw [h1]
      unfold absQ
      split <;> grind
def SfRel (w : World) (n : Nat) (i : Value) (wr : World) : Prop := ∃ k : Nat, k ≤ n ∧ i = .int .i64 k ∧ In w [] wr
set_option maxRecDepth 100000 in
set_option maxHeartbeats 8000000 in
theorem walk (v0 v1 : Value) (up : Bool) (w : World) {b0 b1 : Nat} (f0 : IntsArg w v0 b0) (f1 : IntsArg w v1 b1) (hT : TabW w) :
    Calls Tryd.prog 7 #[v0, v1, .bool up] w fun e w' => e = .returned (.bool true) ∧ Below w.heap.size w w' := by
  obtain ⟨r0, hl0, _, _, hrb0⟩ := f0
  obtain ⟨r1, hl1, _, _, hrb1⟩ := f1
  have HT := Lib.hid hT
  have BR := brakesR w hT
  have HA := Lib.hid (fun W (hW : Below w.heap.size w W) => armMake W v0 r0 ((hl0.below hW).more hW.size) (by unfold reachBytes at hrb0; omega))
  have HL1 := Lib.hid hl1
  have HR1 := Lib.hid hrb1
  clear hl0 hl1 hrb0 hrb1
  have hI := In.start w
  clear hT
  go_enter Tryd.func7, Tryd.ntmps7
  go_wp2_with fail
  refine (BR.out _ hI.bel).mono ?_
  rintro e wn ⟨rfl, hb⟩
  replace hI := hI.call hb
  clear hb
  go_wp2_with fail
  refine (HA.out _ hI.bel).mono ?_
  rintro e w1 ⟨a, he, hG, hAt, hb⟩
  have HG := Lib.hid hG
  have hb1 := hI.bel.trans (hb.mono hI.bel.size)
  have HB1 := Lib.hid hb1
  have HAt := Lib.hid hAt
  have HCM := Lib.hid (fun W (hW : Below w1.heap.size w1 W) => confMake W a hG (hAt.up hW) v1 r1 ((HL1.out.below (hb1.trans (hW.mono hb1.size))).more (hb1.trans (hW.mono hb1.size)).size) (by have := HR1.out; unfold reachBytes at this; omega))
  obtain ⟨nm, ⟨px, py⟩, hf, t, va, L⟩ := a
  obtain ⟨⟨A, N, C, hva, hNL, hNC, _, hrd⟩, hshp⟩ := hAt
  obtain rfl : va = .slice A N C := hva
  obtain rfl : L.length = N := (Ar.ks_len ⟨nm, ⟨px, py⟩, hf, t, .slice A N C, L⟩).symm.trans hNL
  have he : e = .returned (.agg #[.string nm, .bool px.neg, .string px.num, .string px.den, .bool py.neg, .string py.num, .string py.den, .bool hf, .bool t.neg, .string t.num, .string t.den, .slice A L.length C]) := he
  subst he
  have HCM : Hid (∀ W, Below w1.heap.size w1 W → Calls Tryd.prog 39 #[.agg #[.string nm, .bool px.neg, .string px.num, .string px.den, .bool py.neg, .string py.num, .string py.den, .bool hf, .bool t.neg, .string t.num, .string t.den, .slice A L.length C], v1] W (ConfMk W L)) := HCM
  clear hI hb HA hb1 hG hrd hshp hNL BR HL1 HR1
  have hI := (In.start w1).alloc 37 #[.string nm, .bool px.neg, .string px.num, .string px.den, .bool py.neg, .string py.num, .string py.den, .bool hf, .bool t.neg, .string t.num, .string t.den, .slice A L.length C]
  obtain ⟨g7, hg7⟩ : ∃ g, g = w1.heap.size := ⟨_, rfl⟩
  go_upto_region 4 with (fail)
  rw [← hg7] at hI ⊢
  generalize World.alloc _ _ = W1 at hI ⊢
  clear hg7
  have fx := hI.facts
  simp only [factsOf, cellsOf, Nat.zero_add, Nat.reduceAdd] at fx
  go_wp2_with fail
  refine (HCM.out _ hI.bel).mono ?_
  rintro e w3 ⟨vq, qs, lo, rfl, hql, hqs, _, hown, hb⟩
  obtain ⟨Aq, nq, Cq, hvq, hnq, hnqc, _, hrq⟩ := SlQ.own hown
  subst hvq
  subst hnq
  have HRQ := Lib.hid hrq
  have HQL := Lib.hid hql
  have HQS := Lib.hid hqs
  replace hI := hI.call hb
  have HB3 := Lib.hid hI.bel
  clear fx hb hown hrq hqs HCM
  have fx := hI.facts
  simp only [factsOf, cellsOf, Nat.zero_add, Nat.reduceAdd] at fx
  go_upto_if 25 with (fail)
  go_cut [9] (fun p wx => ∃ way : Int, (way = 1 ∨ way = -1) ∧ p = .int .i64 way ∧ wx = w3)
  case first =>
    as_aux_lemma =>
      cases up
      · go_wp2_with fail
        go_meet
        exact ⟨-1, .inr rfl, rfl, rfl⟩
      · go_wp2_with fail
        go_meet
        exact ⟨1, .inl rfl, rfl, rfl⟩
  case rest =>
    obtain ⟨way, hway, rfl, rfl⟩ := hcut
    obtain ⟨w0, rfl⟩ : ∃ w0, w0 = wc := ⟨_, rfl⟩
    have HBC := Lib.hid (HB1.out.trans (HB3.out.mono HB1.out.size))
    have HTC := Lib.hid (tabs w HT.out HBC.out)
    obtain ⟨⟨A', n', c', hva, _, _, _, hrd⟩, hshp⟩ := HAt.out.up HB3.out
    cases hva
    have HRD := Lib.hid hrd
    have HSH := Lib.hid (show ∀ x ∈ L, SlP w0 w0.heap.size x.1.shape x.2 from hshp)
    have HGL := Lib.hid (show ∀ x ∈ L, GenLk x.1 x.2 from HG.out.lk)
    have HKS := Lib.hid (show ∀ i : Nat, (L.map (·.1))[i]? = (L[i]?).map (·.1) from fun i => List.getElem?_map)
    have hL3 : L.length ≤ 3 := HG.out.len.2
    have hst := Lib.hid (show SfRel w0 L.length (.int .i64 0) w0 from ⟨0, Nat.zero_le _, rfl, In.start w0⟩)
    clear hrd hshp HAt HB3 HB1 HT HG hI
    go_wp2_with fail
    clear fx
    go_loopw [29] (fun i wr => SfRel w0 L.length i wr) (fun i _ => L.length - (intOf i).toNat)
    case atStart => exact hst.out
    case round =>
      clear hst
      obtain ⟨i, hi, rfl, hI⟩ := hrel
      by_cases hin : i < L.length
      · have hi1 : (i : Int) < (L.length : Int) := by omega
        have hi2 : 0 ≤ (i : Int) ∧ (i : Int) < (L.length : Int) := by omega
        obtain ⟨⟨⟨klen, klow, khigh, kspeed, kbrake, kshape⟩, pts⟩, ha⟩ : ∃ x, L[i]? = some x := ⟨_, List.getElem?_eq_getElem hin⟩
        obtain ⟨q, hq⟩ : ∃ q, qs[i]? = some q := ⟨_, List.getElem?_eq_getElem (by rw [HQL.out]; exact hin)⟩
        obtain ⟨A5, n5, c5, hk5, _⟩ := HSH.out _ (List.mem_of_getElem? ha)
        obtain rfl : kshape = .slice A5 n5 c5 := hk5
        obtain ⟨b9, o, rfl, hbB, hlc⟩ := Rd.lnk HRD.out (i := i) (k := ⟨klen, klow, khigh, kspeed, kbrake, .slice A5 n5 c5⟩) (by
          show (L.map (·.1))[i]? = _
          rw [HKS.out, ha]; rfl)
        have hlc := hlc.below hI.bel hbB
        have hbn : b9 < wr.heap.size := Nat.lt_of_lt_of_le hbB hI.bel.size
        obtain ⟨f0, f1, f2, f3, f4, f5, f6, f7, f8, f9, f10, f11, f12, f13, f14, f15⟩ := hlc
        have hgk := HGL.out _ (List.mem_of_getElem? ha)
        have hgk : GenLk ⟨klen, klow, khigh, kspeed, kbrake, .slice A5 n5 c5⟩ pts := hgk
        have hqi : QIn ⟨klen, klow, khigh, kspeed, kbrake, .slice A5 n5 c5⟩ q := HQS.out.2 i q _ hq ha
        obtain ⟨bq, oq, rfl, hbq, e0, e1, e2⟩ := Rd.quot HRQ.out hq
        have E := Lib.hid (fun W (hW : Below w0.heap.size w0 W) => (⟨Nat.lt_of_lt_of_le hbq hW.size, (hW.cell (p := ⟨bq, oq + i * 3, none⟩) hbq).trans e0, (hW.cell (p := ⟨bq, oq + i * 3 + 1, none⟩) hbq).trans e1, (hW.cell (p := ⟨bq, oq + i * 3 + 2, none⟩) hbq).trans e2⟩ : And _ (And _ (And _ _))))
        obtain ⟨l1, l2, l3, l4, l5⟩ : klen.le 1 ∧ klow.le 1 ∧ khigh.le 1 ∧ kspeed.le 1 ∧ kbrake.le 1 := by
          obtain ⟨_, _, _, _, _, _, _, _, _, _, _, _, _, h, _⟩ := hgk
          exact h
        have lq : q.le 1 := hqi.2.1
        obtain ⟨x, hF, FA⟩ := fastR w0 HTC.out ⟨klen, klow, khigh, kspeed, kbrake, .slice A5 n5 c5⟩ q way (N := 1) ⟨l1, l2, l3, l4, l5⟩ lq (by omega) (by omega) ⟨hway, hgk.brake.1, (speed_gen hgk).1, (speed_gen hgk).2.2.1, (speed_gen hgk).2.2.2.1, (speed_gen hgk).2.2.2.2.1⟩
        obtain ⟨cx, lx, hx0, hxs, hfp, hab⟩ := fast_safe hgk hqi hway hF
        have hxs : x.q ≤ kspeed.q := hxs
        obtain ⟨cs, _, _, ps, SG⟩ := signR w0 HTC.out x lx
        obtain ⟨c2, _, p2, _, C2⟩ := cmpR w0 HTC.out x kspeed lx l4
        have g1 : ¬ cs < 0 := fun h => by have := ps.mp h; grind
        have g2 : ¬ c2 > 0 := fun h => by have := p2.mp h; grind
        obtain ⟨zw, qw, _, lw, OW⟩ := ofR w0 HTC.out way (by omega)
        obtain ⟨v, qv, cv, lv, MU⟩ := mulR w0 HTC.out x zw lx lw
        rw [qw] at qv
        obtain ⟨n, e, z, hTI, _, hz0, hzl, _, WY⟩ := wayR w0 HTC.out ⟨klen, klow, khigh, kspeed, kbrake, .slice A5 n5 c5⟩ v lv l5
        have hTI : TicksIs kbrake.q v.q n e := hTI
        have hbr : 0 < kbrake.q := hgk.brake.1
        obtain rfl := ticks_fine hTI hbr (by rw [qv]; exact hab)
        have hzq : z.q = wayQ kbrake.q v.q n := (hz0 rfl).1
        obtain ⟨s1, q1, _, ls1, A1⟩ := addR w0 HTC.out q v lq lv
        obtain ⟨s2, q2, _, ls2, A2⟩ := addR w0 HTC.out s1 z ls1 hzl
        have hfp2 : FitP kbrake.q klow.q khigh.q q.q v.q := by rw [qv]; exact hfp
        obtain ⟨_, hlo, hhi⟩ := (fit_iff hTI).mp hfp2
        rw [← hzq, ← q1, ← q2] at hlo hhi
        obtain ⟨c3, _, _, p3, C3⟩ := cmpR w0 HTC.out s2 klow ls2 l2
        obtain ⟨c4, _, p4, _, C4⟩ := cmpR w0 HTC.out s2 khigh ls2 l3
        have g3 : ¬ c3 < 0 := fun h => by have := p3.mp h; grind
        have g4 : ¬ c4 > 0 := fun h => by have := p4.mp h; grind
        have FA : Hid (∀ W, Below w0.heap.size w0 W → Calls Tryd.prog 40 #[.agg #[.bool klen.neg, .string klen.num, .string klen.den, .bool klow.neg, .string klow.num, .string klow.den, .bool khigh.neg, .string khigh.num, .string khigh.den, .bool kspeed.neg, .string kspeed.num, .string kspeed.den, .bool kbrake.neg, .string kbrake.num, .string kbrake.den, .slice A5 n5 c5], .agg #[.bool q.neg, .string q.num, .string q.den], .int .i64 way] W fun r w' => r = .returned (.tuple #[.agg #[.bool x.neg, .string x.num, .string x.den], .int .i64 0]) ∧ Below W.heap.size W w') := FA
        have WY : Hid (∀ W, Below w0.heap.size w0 W → Calls Tryd.prog 19 #[.agg #[.bool klen.neg, .string klen.num, .string klen.den, .bool klow.neg, .string klow.num, .string klow.den, .bool khigh.neg, .string khigh.num, .string khigh.den, .bool kspeed.neg, .string kspeed.num, .string kspeed.den, .bool kbrake.neg, .string kbrake.num, .string kbrake.den, .slice A5 n5 c5], .agg #[.bool v.neg, .string v.num, .string v.den]] W fun r w' => r = .returned (.tuple #[.agg #[.bool z.neg, .string z.num, .string z.den], .int .i64 0]) ∧ Below W.heap.size W w') := WY
        have hwk : IntKind.i64.wrap ((i : Int) + 1) = (i : Int) + 1 := by rw [IntKind.wrap_i64]; omega
        have HN := Lib.hid (show ∀ W, In w0 [] W → SfRel w0 L.length (.int .i64 ((i : Int) + 1)) W from fun W hW => ⟨i + 1, hin, by simp, hW⟩)
        replace hI := hI.alloc 28 #[.bool klen.neg, .string klen.num, .string klen.den, .bool klow.neg, .string klow.num, .string klow.den, .bool khigh.neg, .string khigh.num, .string khigh.den, .bool kspeed.neg, .string kspeed.num, .string kspeed.den, .bool kbrake.neg, .string kbrake.num, .string kbrake.den, .slice A5 n5 c5]
        clear hF cx hx0 hxs hfp hfp2 hab ps p2 p3 p4 qw qv hTI hz0 hzq q1 q2 hlo hhi hgk hqi hq ha e0 e1 e2 l1 l2 l3 l4 l5 lq lx lw cv lv hzl ls1 ls2 hbr hbq
        obtain ⟨g11, hg11⟩ : ∃ g, g = wr.heap.size := ⟨_, rfl⟩
        go_upto_region 11 with (fail)
        clear f0 f1 f2 f3 f4 f5 f6 f7 f8 f9 f10 f11 f12 f13 f14 f15 hbn hbB
        rw [← hg11] at hI ⊢
        generalize World.alloc _ _ = W2 at hI ⊢
        clear hg11
        go_cut [12, 13] (fun p c wx => ∃ gm, p = .pointer (some ⟨gm, 0, none⟩) ∧ c = .int .i64 0 ∧ In w0 [(gm, 25, #[.bool x.neg, .string x.num, .string x.den]), (g11, 28, #[.bool klen.neg, .string klen.num, .string klen.den, .bool klow.neg, .string klow.num, .string klow.den, .bool khigh.neg, .string khigh.num, .string khigh.den, .bool kspeed.neg, .string kspeed.num, .string kspeed.den, .bool kbrake.neg, .string kbrake.num, .string kbrake.den, .slice A5 n5 c5])] wx)
        case first =>
          as_aux_lemma =>
            refine wp_region_in_late 10 [9] _ 25 #[.bool false, .string { data := #[] }, .string { data := #[] }] hI (by kernel_rfl) (by kernel_rfl) rfl ?_
            simp only [List.take_succ_cons, List.take_zero, List.drop_succ_cons, List.drop_zero]
            repeat (first
              | (refine wpSeqL_off (by rfl) ?_; try simp only [Act.put, List.setIfInBounds_toArray, List.set_cons_zero, List.set_cons_succ])
              | (refine wpSeqL_pure (v := ?_) (by rfl) (fun W => ?_) ?_
                 rotate_left
                 · (go_simp; first | done | with_reducible rfl)
                 try simp only [Act.put, List.setIfInBounds_toArray, List.set_cons_zero, List.set_cons_succ])
              | (refine wpSeqL_val (v := ?_) (by rfl) (by rfl) (fun W hS => ?_) ?_
                 rotate_left
                 · (have fx := hS.facts; simp only [factsOf, cellsOf, Nat.zero_add, Nat.reduceAdd] at fx; have fy0 := E.out W hS.bel; clear hS; go_simp; first | done | with_reducible rfl)
                 try simp only [Act.put, List.setIfInBounds_toArray, List.set_cons_zero, List.set_cons_succ]))
            refine wpSeqL_call (v := .tuple #[.agg #[.bool x.neg, .string x.num, .string x.den], .int .i64 0]) (by rfl) (by rfl) (fun W hS => ?_) (fun W hS => (FA.out W hS.bel)) ?_
            · (clear hS; go_simp; done)
            try simp only [Act.put, List.setIfInBounds_toArray, List.set_cons_zero, List.set_cons_succ]
            repeat (first
              | (refine wpSeqL_off (by rfl) ?_; try simp only [Act.put, List.setIfInBounds_toArray, List.set_cons_zero, List.set_cons_succ])
              | (refine wpSeqL_pure (v := ?_) (by rfl) (fun W => ?_) ?_
                 rotate_left
                 · (go_simp; first | done | with_reducible rfl)
                 try simp only [Act.put, List.setIfInBounds_toArray, List.set_cons_zero, List.set_cons_succ])
              | (refine wpSeqL_val (v := ?_) (by rfl) (by rfl) (fun W hS => ?_) ?_
                 rotate_left
                 · (have fx := hS.facts; simp only [factsOf, cellsOf, Nat.zero_add, Nat.reduceAdd] at fx; clear hS; go_simp; first | done | with_reducible rfl)
                 try simp only [Act.put, List.setIfInBounds_toArray, List.set_cons_zero, List.set_cons_succ]))
            refine wpSeqL_nil ⟨rfl, fun W hS => ?_, fun g W hI => ?_⟩
            · go_simp
            simp only [List.setIfInBounds_toArray, List.set_cons_zero, List.set_cons_succ]
            have hS1 := hI.take (a := [_])
            have fx := hS1.facts
            simp only [factsOf, cellsOf, Nat.zero_add, Nat.reduceAdd] at fx
            have hz := fun i => hS1.free (k := 0) (i := i) rfl
            have HX := Lib.hid (hI.all3 (a := []) (.bool x.neg) (.string x.num) (.string x.den))
            clear hS1 hI
            go_wp2_with fail
            refine NoPanic.normal ?_
            go_wp2_with fail
            go_meet
            exact ⟨g, rfl, rfl, HX.out⟩
        case rest =>
          clear hI FA
          obtain ⟨gm, rfl, rfl, hI⟩ := hcut
          have fx := hI.facts
          simp only [factsOf, cellsOf, Nat.zero_add, Nat.reduceAdd] at fx
          go_wp2_with fail
          refine (SG.out _ hI.bel).mono ?_
          rintro e wn ⟨rfl, hb⟩
          replace hI := hI.call hb
          clear hb
          clear fx
          have fx := hI.facts
          simp only [factsOf, cellsOf, Nat.zero_add, Nat.reduceAdd] at fx
          go_wp2_with fail
          refine (C2.out _ hI.bel).mono ?_
          rintro e wn ⟨rfl, hb⟩
          replace hI := hI.call hb
          clear hb
          clear fx
          go_upto_region 14 with (fail)
          refine wp_region_in_tail 4 hI (by kernel_rfl) (by kernel_rfl) ?_
          simp only [List.take_succ_cons, List.take_zero, List.drop_succ_cons, List.drop_zero]
          repeat (first
            | (refine wpSeq_off (by rfl) ?_; try simp only [Act.put, List.setIfInBounds_toArray, List.set_cons_zero, List.set_cons_succ])
            | (refine wpSeq_val (v := ?_) (by rfl) (fun W hS => ?_) ?_
               rotate_left
               · (have fx := hS.facts; simp only [factsOf, cellsOf, Nat.zero_add, Nat.reduceAdd] at fx; clear hS; go_simp; first | done | with_reducible rfl)
               try simp only [Act.put, List.setIfInBounds_toArray, List.set_cons_zero, List.set_cons_succ]))
          refine wpSeq_call (v := .agg #[.bool zw.neg, .string zw.num, .string zw.den]) (by rfl) (fun W hS => ?_) (fun W hS => (OW.out W hS.bel)) ?_
          · (clear hS; go_simp; done)
          try simp only [Act.put, List.setIfInBounds_toArray, List.set_cons_zero, List.set_cons_succ]
          repeat (first
            | (refine wpSeq_off (by rfl) ?_; try simp only [Act.put, List.setIfInBounds_toArray, List.set_cons_zero, List.set_cons_succ])
            | (refine wpSeq_val (v := ?_) (by rfl) (fun W hS => ?_) ?_
               rotate_left
               · (have fx := hS.facts; simp only [factsOf, cellsOf, Nat.zero_add, Nat.reduceAdd] at fx; clear hS; go_simp; first | done | with_reducible rfl)
               try simp only [Act.put, List.setIfInBounds_toArray, List.set_cons_zero, List.set_cons_succ]))
          refine wpSeq_call (v := .agg #[.bool v.neg, .string v.num, .string v.den]) (by rfl) (fun W hS => ?_) (fun W hS => (MU.out W hS.bel)) ?_
          · (clear hS; go_simp; done)
          try simp only [Act.put, List.setIfInBounds_toArray, List.set_cons_zero, List.set_cons_succ]
          repeat (first
            | (refine wpSeq_off (by rfl) ?_; try simp only [Act.put, List.setIfInBounds_toArray, List.set_cons_zero, List.set_cons_succ])
            | (refine wpSeq_val (v := ?_) (by rfl) (fun W hS => ?_) ?_
               rotate_left
               · (have fx := hS.facts; simp only [factsOf, cellsOf, Nat.zero_add, Nat.reduceAdd] at fx; clear hS; go_simp; first | done | with_reducible rfl)
               try simp only [Act.put, List.setIfInBounds_toArray, List.set_cons_zero, List.set_cons_succ]))
          refine wpSeq_nil (fun W hS => ?_)
          clear hI
          have hS1 := hS.take (a := [_])
          have fx := hS1.facts
          simp only [factsOf, cellsOf, Nat.zero_add, Nat.reduceAdd] at fx
          have hz := fun i => hS1.free (k := 0) (i := i) rfl
          have HX := Lib.hid (hS.all3 (a := []) (.bool v.neg) (.string v.num) (.string v.den))
          clear hS1 hS
          go_upto_region 15 with (fail)
          have hI : In w0 [(gm, 25, #[.bool v.neg, .string v.num, .string v.den]), (g11, 28, #[.bool klen.neg, .string klen.num, .string klen.den, .bool klow.neg, .string klow.num, .string klow.den, .bool khigh.neg, .string khigh.num, .string khigh.den, .bool kspeed.neg, .string kspeed.num, .string kspeed.den, .bool kbrake.neg, .string kbrake.num, .string kbrake.den, .slice A5 n5 c5])] _ := HX.out
          clear HX fx hz
          generalize World.setCell _ _ _ = W4 at hI ⊢
          have fx := hI.facts
          simp only [factsOf, cellsOf, Nat.zero_add, Nat.reduceAdd] at fx
          go_wp2_with fail
          refine (WY.out _ hI.bel).mono ?_
          rintro e wn ⟨rfl, hb⟩
          replace hI := hI.call hb
          clear hb
          clear fx
          replace hI := hI.alloc 25 #[.bool z.neg, .string z.num, .string z.den]
          obtain ⟨g14, hg14⟩ : ∃ g, g = wn.heap.size := ⟨_, rfl⟩
          go_upto_region 16 with (fail)
          rw [← hg14] at hI ⊢
          generalize World.alloc _ _ = W5 at hI ⊢
          clear hg14
          refine wp_region_in_float 8 _ 25 #[.bool false, .string { data := #[] }, .string { data := #[] }] hI (by kernel_rfl) (by kernel_rfl) rfl ?_
          simp only [List.take_succ_cons, List.take_zero, List.drop_succ_cons, List.drop_zero]
          repeat (first
            | (refine wpSeq_off (by rfl) ?_; try simp only [Act.put, List.setIfInBounds_toArray, List.set_cons_zero, List.set_cons_succ])
            | (refine wpSeq_val (v := ?_) (by rfl) (fun W hS => ?_) ?_
               rotate_left
               · (have fx := hS.facts; simp only [factsOf, cellsOf, Nat.zero_add, Nat.reduceAdd] at fx; have fy0 := E.out W hS.bel; clear hS; go_simp; first | done | with_reducible rfl)
               try simp only [Act.put, List.setIfInBounds_toArray, List.set_cons_zero, List.set_cons_succ]))
          refine wpSeq_call (v := .agg #[.bool s1.neg, .string s1.num, .string s1.den]) (by rfl) (fun W hS => ?_) (fun W hS => (A1.out W hS.bel)) ?_
          · (clear hS; go_simp; done)
          try simp only [Act.put, List.setIfInBounds_toArray, List.set_cons_zero, List.set_cons_succ]
          repeat (first
            | (refine wpSeq_off (by rfl) ?_; try simp only [Act.put, List.setIfInBounds_toArray, List.set_cons_zero, List.set_cons_succ])
            | (refine wpSeq_val (v := ?_) (by rfl) (fun W hS => ?_) ?_
               rotate_left
               · (have fx := hS.facts; simp only [factsOf, cellsOf, Nat.zero_add, Nat.reduceAdd] at fx; clear hS; go_simp; first | done | with_reducible rfl)
               try simp only [Act.put, List.setIfInBounds_toArray, List.set_cons_zero, List.set_cons_succ]))
          refine wpSeq_call (v := .agg #[.bool s2.neg, .string s2.num, .string s2.den]) (by rfl) (fun W hS => ?_) (fun W hS => (A2.out W hS.bel)) ?_
          · (clear hS; go_simp; done)
          try simp only [Act.put, List.setIfInBounds_toArray, List.set_cons_zero, List.set_cons_succ]
          repeat (first
            | (refine wpSeq_off (by rfl) ?_; try simp only [Act.put, List.setIfInBounds_toArray, List.set_cons_zero, List.set_cons_succ])
            | (refine wpSeq_val (v := ?_) (by rfl) (fun W hS => ?_) ?_
               rotate_left
               · (have fx := hS.facts; simp only [factsOf, cellsOf, Nat.zero_add, Nat.reduceAdd] at fx; clear hS; go_simp; first | done | with_reducible rfl)
               try simp only [Act.put, List.setIfInBounds_toArray, List.set_cons_zero, List.set_cons_succ]))
          refine wpSeq_nil ⟨rfl, fun W hS => ?_, fun g W hI => ?_⟩
          · go_simp
          simp only [List.setIfInBounds_toArray, List.set_cons_zero, List.set_cons_succ]
          have hS1 := hI.take (a := [_])
          have fx := hS1.facts
          simp only [factsOf, cellsOf, Nat.zero_add, Nat.reduceAdd] at fx
          have hz := fun i => hS1.free (k := 0) (i := i) rfl
          have HX := Lib.hid (hI.all3 (a := []) (.bool s2.neg) (.string s2.num) (.string s2.den))
          clear hS1 hI
          go_upto_region 17 with (fail)
          have hI : In w0 (_ :: _ :: _ :: _ :: _) _ := HX.out
          clear HX fx hz
          generalize World.setCell _ _ _ = W6 at hI ⊢
          have fx := hI.facts
          simp only [factsOf, cellsOf, Nat.zero_add, Nat.reduceAdd] at fx
          go_wp2_with fail
          refine (C3.out _ hI.bel).mono ?_
          rintro e wn ⟨rfl, hb⟩
          replace hI := hI.call hb
          clear hb
          clear fx
          have fx := hI.facts
          simp only [factsOf, cellsOf, Nat.zero_add, Nat.reduceAdd] at fx
          go_wp2_with fail
          refine (C4.out _ hI.bel).mono ?_
          rintro e wn ⟨rfl, hb⟩
          replace hI := hI.call hb
          clear hb
          clear fx
          have HX := Lib.hid (HN.out _ hI.tail.tail.tail.tail)
          clear hI
          go_wp2_with fail
          go_roundw
          case rel => exact HX.out
          case measure => simp [intOf]; omega
      · obtain rfl : i = L.length := by omega
        have hi1 : ¬ (L.length : Int) < (L.length : Int) := by omega
        have hfin := HBC.out.trans (hI.bel.mono HBC.out.size)
        clear hI
        go_wp2
        go_ret
        exact ⟨rfl, hfin⟩
end Go.Proofs.YtnnbnecpcppkdaaDoor.stopSafe
