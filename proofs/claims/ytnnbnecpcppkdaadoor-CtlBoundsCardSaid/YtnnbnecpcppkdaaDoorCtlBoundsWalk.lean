/- CtlBounds: the walk. Conditions: those typed. -/
import Derived.Test.YtnnbnecpcppkdaaDoorState
import Derived.Test.YtnnbnecpcppkdaaDoorCtlS
import Derived.Test.YtnnbnecpcppkdaaDoorCtlM
import Derived.Test.YtnnbnecpcppkdaaDoorArgQ
namespace Go.Proofs.YtnnbnecpcppkdaaDoor.ctlBounds
open Go.RowKit Go.Gy
set_option linter.unusedVariables false
set_option linter.unusedSimpArgs false
theorem wf_i64 {n : Int} (h : wfI .i64 n) : -9223372036854775808 ≤ n ∧ n ≤ 9223372036854775807 := by
  simpa [wfI, Lit.wf, IntKind.min, IntKind.max, IntKind.signed, IntKind.bits] using h
theorem tow_in {lo hi sp q g : Rat} (h1 : lo ≤ q) (h2 : q ≤ hi) (hs : 0 ≤ sp) : absQ (towQ lo hi sp q g) ≤ sp ∧ lo ≤ q + towQ lo hi sp q g ∧ q + towQ lo hi sp q g ≤ hi := by
  unfold towQ absQ maxQ minQ
  refine ⟨?_, ?_, ?_⟩ <;> grind
theorem SlQ.up {w w' : World} {v : Value} {l : List Q3} (h : SlQ w w.heap.size v l) (hb : Below w.heap.size w w') : SlQ w' w'.heap.size v l := (h.below hb).more hb.size
theorem KyLe.more {K : List Ky} {N M : Nat} (h : KyLe K N) (hM : N ≤ M) : KyLe K M := fun k hk => ⟨fun x hx => ((h k hk).1 x hx).more hM, (h k hk).2⟩
theorem wish_facts (w : World) (hT : TabW w) {a a' : Ar} (hG : GenAr a) (hS : SameA a a') {qs gl : List Q3} (hq : QsIn a.L qs) (hql : qs.length = a.L.length) (hgl : gl.length = a.L.length) (hg : ∀ x ∈ gl, x.le 52) {k : Nat} {x : Lk × List P2} {q : Q3} (hx : a.L[k]? = some x) (hqk : qs[k]? = some q) :
    ∃ z : Q3, ((wishL a'.L qs gl a.L.length).map toQ3)[k]? = some z ∧ z.can ∧ z.le 105 ∧ absQ z.q ≤ x.1.speed.q ∧ x.1.low.q ≤ q.q + z.q ∧ q.q + z.q ≤ x.1.high.q := by
  have hk := (List.getElem?_eq_some_iff.1 hx).1
  obtain ⟨y, hy⟩ : ∃ y, a'.L[k]? = some y := ⟨_, List.getElem?_eq_getElem (by rw [hS.2.2.2.2.1]; exact hk)⟩
  obtain ⟨g, hgk⟩ : ∃ g, gl[k]? = some g := ⟨_, List.getElem?_eq_getElem (by rw [hgl]; exact hk)⟩
  obtain ⟨_, s2, s3, s4, _⟩ := hS.2.2.2.2.2 k x y hx hy
  have hgen := hG.lk x (List.mem_of_getElem? hx)
  have hkl := hgen.le.1
  obtain ⟨_, lq, h1, h2⟩ := hq.2 k q x hqk hx
  obtain ⟨z, qz, cz, lz, _⟩ := towardR w hT x.1 q g (N := 52) (hkl.more (by decide)) (lq.more (by decide)) (hg g (List.mem_of_getElem? hgk)) (by decide)
  have hsp : 0 ≤ x.1.speed.q := by obtain ⟨_, _, h, _⟩ := hgen.range; grind
  obtain ⟨t1, t2, t3⟩ := tow_in (g := g.q) h1 h2 hsp
  rw [← qz] at t1 t2 t3
  refine ⟨z, ?_, cz, lz, t1, t2, t3⟩
  unfold wishL
  rw [List.map_map, List.getElem?_map, List.getElem?_range hk]
  have hw : wishV a'.L qs gl k = z.q := by
    unfold wishV
    rw [hy, hqk, hgk, qz, ← s2, ← s3, ← s4]
  show some (toQ3 (wishV a'.L qs gl k)) = some z
  rw [hw]
  exact congrArg some (Eq.symm cz)
def LsRel (w : World) (n : Nat) (i : Value) (wr : World) : Prop := ∃ k : Nat, k ≤ n ∧ i = .int .i64 k ∧ In w [] wr
set_option maxRecDepth 100000 in
set_option maxHeartbeats 8000000 in
theorem walk (v0 v1 v2 : Value) (tick : Int) (w : World) {b0 b1 b2 : Nat} (f0 : IntsArg w v0 b0) (f1 : IntsArg w v1 b1) (f2 : IntsArg w v2 b2) (wt : wfI .i64 tick) (hT : TabW w) :
    Calls Tryd.prog 9 #[v0, v1, v2, .int .i64 tick] w fun e w' => e = .returned (.bool true) ∧ Below w.heap.size w w' := by
  obtain ⟨r0, hl0, _, _, hrb0⟩ := f0
  obtain ⟨r1, hl1, _, _, hrb1⟩ := f1
  obtain ⟨r2, hl2, hi2, _, hrb2⟩ := f2
  have HTI := Lib.hid (show InI tick from wf_i64 wt)
  have HT := Lib.hid hT
  have HA := Lib.hid (fun W (hW : Below w.heap.size w W) => armMake W v0 r0 ((hl0.below hW).more hW.size) (by unfold reachBytes at hrb0; omega))
  have HL1 := Lib.hid hl1
  have HR1 := Lib.hid (show r1.length ≤ 140737488355328 by unfold reachBytes at hrb1; omega)
  have HL2 := Lib.hid hl2
  have HR2 := Lib.hid (show r2.length ≤ 140737488355328 by unfold reachBytes at hrb2; omega)
  have HI2 := Lib.hid hi2
  clear hl0 hl1 hl2 hrb0 hrb1 hrb2 hi2 wt hT
  go_enter Tryd.func9, Tryd.ntmps9
  go_wp2_with fail
  refine (HA.out _ (Below.refl _ _)).mono ?_
  rintro e w1 ⟨a, he, hG, hAt, hb1⟩
  have HG := Lib.hid hG
  have HB1 := Lib.hid hb1
  have HNW := Lib.hid (fun W (hW : Below w1.heap.size w1 W) => new_ctl W (tabs w HT.out (hb1.trans (hW.mono hb1.size))) a (hAt.up hW) hG.le (by decide))
  have HTM := Lib.hid (fun W (hW : Below w1.heap.size w1 W) => trackMake W a hG (hAt.up hW) v1 r1 ((HL1.out.below (hb1.trans (hW.mono hb1.size))).more (hb1.trans (hW.mono hb1.size)).size) HR1.out)
  have HST := Lib.hid (fun W (hW : Below w1.heap.size w1 W) => state_any W (tabs w HT.out (hb1.trans (hW.mono hb1.size))) a hG (hAt.up hW) v2 r2 ((HL2.out.below (hb1.trans (hW.mono hb1.size))).more (hb1.trans (hW.mono hb1.size)).size) HR2.out HI2.out)
  obtain ⟨ar, har⟩ : ∃ ar, ar = a := ⟨_, rfl⟩
  rw [← har] at HNW HTM HST HG
  obtain ⟨nm, ⟨px, py⟩, hf, t, va, L⟩ := a
  obtain ⟨⟨A, N, C, hva, hNL, hNC, _, hrd⟩, hshp⟩ := hAt
  obtain rfl : va = .slice A N C := hva
  obtain rfl : L.length = N := (Ar.ks_len ⟨nm, ⟨px, py⟩, hf, t, .slice A N C, L⟩).symm.trans hNL
  have hval : ar.val = .agg #[.string nm, .bool px.neg, .string px.num, .string px.den, .bool py.neg, .string py.num, .string py.den, .bool hf, .bool t.neg, .string t.num, .string t.den, .slice A L.length C] := by rw [har]; rfl
  have HLL := Lib.hid (show ar.L = L by rw [har])
  have HRD := Lib.hid hrd
  have HSH := Lib.hid (show ∀ x ∈ L, SlP w1 w1.heap.size x.1.shape x.2 from hshp)
  have HKS := Lib.hid (show ∀ i : Nat, (L.map (·.1))[i]? = (L[i]?).map (·.1) from fun i => List.getElem?_map)
  have he : e = .returned (.agg #[.string nm, .bool px.neg, .string px.num, .string px.den, .bool py.neg, .string py.num, .string py.den, .bool hf, .bool t.neg, .string t.num, .string t.den, .slice A L.length C]) := he
  subst he
  rw [hval] at HNW HTM HST
  clear hb1 HA hG hrd hshp hNL HL1 HR1 HL2 HR2 HI2 har hval
  have hI := (In.start w1).alloc 37 #[.string nm, .bool px.neg, .string px.num, .string px.den, .bool py.neg, .string py.num, .string py.den, .bool hf, .bool t.neg, .string t.num, .string t.den, .slice A L.length C]
  obtain ⟨g5, hg5⟩ : ∃ g, g = w1.heap.size := ⟨_, rfl⟩
  go_upto_region 2 with (fail)
  rw [← hg5] at hI ⊢
  generalize World.alloc _ _ = W1 at hI ⊢
  clear hg5
  have fx := hI.facts
  simp only [factsOf, cellsOf, Nat.zero_add, Nat.reduceAdd] at fx
  go_wp2_with fail
  refine (HNW.out _ hI.bel).mono ?_
  rintro e w2 ⟨hb, ⟨c, hc, hE, _⟩ | ⟨hE, p, a', rfl, hok⟩⟩
  · exact absurd (hE.uniq HG.out.ok) hc
  have hp5 := (hI.blk _ List.mem_cons_self).lt
  have hp5 : g5 < p := Nat.lt_of_lt_of_le hp5 hok.2.2.1
  have HSA := Lib.hid hok.1
  have hC := hok.at
  replace hI := hI.call hb
  clear hb hok hE fx HNW
  have fx := hI.facts
  simp only [factsOf, cellsOf, Nat.zero_add, Nat.reduceAdd] at fx
  go_wp2_with fail
  refine (HTM.out _ hI.bel).mono ?_
  rintro e w3 ⟨vt, K, rfl, hne, hK4, hgk, hown, hb⟩
  obtain ⟨At, ct, rfl, _⟩ := own_rd hown.1
  have HK := Lib.hid (show K ≠ [] ∧ K.length ≤ 4 ∧ GenK ar.L K from ⟨hne, hK4, hgk⟩)
  replace hI := hI.call hb
  replace hC := hC.below hb
  have hbw := HB1.out.trans (hI.bel.mono HB1.out.size)
  have HSET := Lib.hid (set_ctl w3 (tabs w HT.out hbw) p a' (.slice none 0 0) (.slice At K.length ct) K (N := 4) hC (HSA.out.le HG.out.le) hown.slK (KyLe.more (hgk.le HG.out.len.2) (by decide)) (fun k hk => by
    obtain ⟨q1, q2⟩ := (hgk.ky hK4).1 k hk
    exact ⟨by omega, by omega⟩) (by omega) (by decide) ⟨none, 0, 0, rfl⟩)
  clear hb hown hne hK4 hgk hbw hC fx HTM
  have fx := hI.facts
  simp only [factsOf, cellsOf, Nat.zero_add, Nat.reduceAdd] at fx
  go_wp2_with fail
  refine HSET.out.mono ?_
  rintro e w4 ⟨c, rfl, hTE, hbp, hsz, hor⟩
  obtain rfl : c = 0 := hTE.uniq ((gen_track HG.out HK.out.1 HK.out.2.1 HK.out.2.2).same HSA.out)
  obtain ⟨v', K', hC, hown, hsk⟩ : ∃ (v' : Value) (K' : List Ky), CtlAt w4 p a' v' ∧ KOwn w3.heap.size w4 v' K' ∧ SameK K K' := by
    rcases hor with ⟨h, _⟩ | ⟨_, h⟩
    · exact absurd rfl h
    · exact h
  have hp1 : w1.heap.size ≤ p := by
    have := (hI.new _ List.mem_cons_self)
    have h2 : w1.heap.size ≤ g5 := this
    omega
  replace hI := hI.callB hbp hp1 (fun x hx => by
    rcases List.mem_cons.1 hx with rfl | hx
    · exact hp5
    · cases hx)
  obtain ⟨Av', cv', rfl, _⟩ := own_rd hown.1
  have HSK := Lib.hid hsk
  have HC := Lib.hid (fun W (hW : Below w4.heap.size w4 W) => hC.below hW)
  have HSL := Lib.hid (fun W (hW : Below w4.heap.size w4 W) => (hown.below hW).slK)
  clear hTE hbp hsz hor hC hown hsk hp1 hp5 fx HSET
  have hJ : Below w4.heap.size w4 w4 := Below.refl _ _
  have fx := hI.facts
  simp only [factsOf, cellsOf, Nat.zero_add, Nat.reduceAdd] at fx
  go_wp2_with fail
  refine (HST.out _ hI.bel).mono ?_
  rintro e w6 ⟨vq, vv, qs, vs, rfl, hql, hqs, _, _, hsq, hsv, hb⟩
  obtain ⟨Aq, nq, Cq, rfl, hnq, _⟩ := id hsq
  obtain ⟨Av, nv, Cv, rfl, _⟩ := id hsv
  subst hnq
  replace hI := hI.call hb
  replace hJ := hJ.trans (hb.mono hJ.size)
  have HQL := Lib.hid hql
  have HQS := Lib.hid hqs
  clear fx hb HST hsv hql hqs
  have hba : Below w6.heap.size w6 (w6.alloc (.cells #[.slice Aq qs.length Cq, .slice Av nv Cv, .bool true, .int .i64 (-1)] 61)) := (Below.refl _ _).alloc (Nat.le_refl _) _
  replace hI := hI.alloc 61 #[.slice Aq qs.length Cq, .slice Av nv Cv, .bool true, .int .i64 (-1)]
  replace hJ := hJ.trans (hba.mono hJ.size)
  have hsq := SlQ.up hsq hba
  obtain ⟨g6, hg6⟩ : ∃ g, g = w6.heap.size := ⟨_, rfl⟩
  clear hba
  go_upto_region 6 with (fail)
  rw [← hg6] at hI ⊢
  generalize World.alloc _ _ = W3 at hI hJ hsq ⊢
  clear hg6
  have HLQ := Lib.hid (show ∀ x ∈ qs, x.le 1 from fun x hx => by
    obtain ⟨j, hj, rfl⟩ := List.getElem_of_mem hx
    have h1 : j < ar.L.length := by rw [← HQL.out]; exact hj
    exact (HQS.out.2 j _ _ (List.getElem?_eq_getElem hj) (List.getElem?_eq_getElem h1)).2.1)
  have hbw := HB1.out.trans (hI.bel.mono HB1.out.size)
  have HSQ := Lib.hid hsq
  have hlen := HSK.out.length
  have HWI := Lib.hid (wish_ctl W3 (tabs w HT.out hbw) p a' _ K' tick _ (.slice Av nv Cv) qs true (-1) (N := 4) (HC.out W3 hJ) (HSA.out.le HG.out.le) (by rw [HSA.out.2.2.2.2.1]; exact HG.out.len.2) (HSL.out W3 hJ) (KyLe.more (HSK.out.le (HK.out.2.2.le HG.out.len.2)) (by decide)) (HSK.out.ok (HK.out.2.2.ky HK.out.2.1)) (fun k hk => by
    obtain ⟨k', h1, _, h2⟩ := HSK.out.mem hk
    rw [HSA.out.2.2.2.2.1, ← HK.out.2.2.len k' h1, h2]) (by have := HK.out.2.1; omega) HTI.out hsq (fun x hx => (HLQ.out x hx).more (by decide)) (by rw [HSA.out.2.2.2.2.1]; exact HQL.out) ⟨_, _, _, rfl⟩ (by decide))
  clear hsq hlen hbw hJ
  have fx := hI.facts
  simp only [factsOf, cellsOf, Nat.zero_add, Nat.reduceAdd] at fx
  go_wp2_with fail
  refine HWI.out.mono ?_
  rintro e w7 ⟨vw, rfl, hown, hb⟩
  have hn : a'.L.length = L.length := by rw [HSA.out.2.2.2.2.1, HLL.out]
  rw [hn] at hown
  have hgl : (goalL K' tick qs).length = ar.L.length := goal_len (fun k hk => by
    obtain ⟨k', h1, _, h2⟩ := HSK.out.mem hk
    rw [← HK.out.2.2.len k' h1, h2]) tick HQL.out
  have HF := Lib.hid (fun W hTW k x q h1 h2 => wish_facts W hTW HG.out HSA.out HQS.out HQL.out hgl (goal_le (by decide) (HSK.out.ok (HK.out.2.2.ky HK.out.2.1)) (KyLe.more (HSK.out.le (HK.out.2.2.le HG.out.len.2)) (by decide)) tick (N := 4) (fun x hx => (HLQ.out x hx).more (by decide))) (k := k) (x := x) (q := q) h1 h2)
  rw [HLL.out] at HF
  obtain ⟨Aw, cw, rfl, _⟩ := own_rd hown
  have hsw := SlQ.row hown
  obtain ⟨VL, hVL⟩ : ∃ VL, VL = (wishL a'.L qs (goalL K' tick qs) L.length).map toQ3 := ⟨_, rfl⟩
  rw [← hVL] at HF hsw
  have HVW := Lib.hid hsw
  replace HSQ := Lib.hid (SlQ.up HSQ.out hb)
  replace hI := hI.call hb
  have hL3 : L.length ≤ 3 := by rw [← HLL.out]; exact HG.out.len.2
  have HBW := Lib.hid (HB1.out.trans (hI.bel.mono HB1.out.size))
  have HBI := Lib.hid hI.bel
  have HTC := Lib.hid (tabs w HT.out HBW.out)
  have HQ7 := Lib.hid (show qs.length = L.length by rw [HQL.out, HLL.out])
  have HG7 := Lib.hid (show w7.cell? ⟨g6, 0, none⟩ = some (.slice Aq qs.length Cq) ∧ g6 < w7.heap.size from ⟨(hI.blk _ List.mem_cons_self).cell 0 _ rfl, (hI.blk _ List.mem_cons_self).lt⟩)
  have hst := Lib.hid (show LsRel w7 L.length (.int .i64 0) w7 from ⟨0, Nat.zero_le _, rfl, In.start w7⟩)
  have hneq : ((L.length : Int) != (L.length : Int)) = false := by simp
  clear hn hown hgl hsw hVL fx hb HWI
  have fx := hI.facts
  simp only [factsOf, cellsOf, Nat.zero_add, Nat.reduceAdd] at fx
  clear hI
  go_wp2_with fail
  clear fx
  go_loopw [54] (fun i wr => LsRel w7 L.length i wr) (fun i _ => L.length - (intOf i).toNat)
  case atStart => exact hst.out
  case round =>
    as_aux_lemma =>
    clear hst
    obtain ⟨k, hk, rfl, hI⟩ := hrel
    by_cases hin : k < L.length
    · have hi1 : (k : Int) < (L.length : Int) := by omega
      have hi2 : 0 ≤ (k : Int) ∧ (k : Int) < (L.length : Int) := by omega
      have hi3 : 0 ≤ (k : Int) ∧ (k : Int) < (qs.length : Int) := by have := HQ7.out; omega
      obtain ⟨⟨⟨klen, klow, khigh, kspeed, kbrake, kshape⟩, pts⟩, ha⟩ : ∃ x, L[k]? = some x := ⟨_, List.getElem?_eq_getElem hin⟩
      obtain ⟨q, hq⟩ : ∃ x, qs[k]? = some x := ⟨_, List.getElem?_eq_getElem (by rw [HQ7.out]; exact hin)⟩
      obtain ⟨z, hz, _, lz, z1, z2, z3⟩ := HF.out w7 HTC.out k _ q ha hq
      obtain ⟨A5, n5, c5, hk5, _⟩ := HSH.out _ (List.mem_of_getElem? ha)
      obtain rfl : kshape = .slice A5 n5 c5 := hk5
      have hkl := (HG.out.lk _ (by rw [HLL.out]; exact List.mem_of_getElem? ha)).le.1
      obtain ⟨_, llow, lhigh, lspeed, _⟩ := hkl
      have lq := HLQ.out q (List.mem_of_getElem? hq)
      have z1 : absQ z.q ≤ kspeed.q := z1
      have z2 : klow.q ≤ q.q + z.q := z2
      have z3 : q.q + z.q ≤ khigh.q := z3
      obtain ⟨y, qy, _, ly, AD⟩ := addR w7 HTC.out q z lq lz
      obtain ⟨u, qu, _, lu, AB⟩ := absR w7 HTC.out z lz
      obtain ⟨c1, _, p1, _, C1⟩ := cmpR w7 HTC.out u kspeed lu lspeed
      obtain ⟨c2, _, _, p2, C2⟩ := cmpR w7 HTC.out y klow ly llow
      obtain ⟨c3, _, p3, _, C3⟩ := cmpR w7 HTC.out y khigh ly lhigh
      have n1 : ¬ 0 < c1 := fun h => by have := p1.mp h; rw [qu] at this; grind
      have n2 : ¬ c2 < 0 := fun h => by have := p2.mp h; rw [qy] at this; grind
      have n3 : ¬ 0 < c3 := fun h => by have := p3.mp h; rw [qy] at this; grind
      have m1 : ¬ c1 > 0 := n1
      have m3 : ¬ c3 > 0 := n3
      obtain ⟨b9, o9, rfl, hbB, hlc⟩ := Rd.lnk HRD.out (i := k) (k := ⟨klen, klow, khigh, kspeed, kbrake, .slice A5 n5 c5⟩) (by
        show (L.map (·.1))[k]? = _
        rw [HKS.out, ha]; rfl)
      have hlc := hlc.below (HBI.out.trans (hI.bel.mono HBI.out.size)) hbB
      have hbn : b9 < wr.heap.size := Nat.lt_of_lt_of_le hbB (HBI.out.trans (hI.bel.mono HBI.out.size)).size
      obtain ⟨f0, f1, f2, f3, f4, f5, f6, f7, f8, f9, f10, f11, f12, f13, f14, f15⟩ := hlc
      obtain ⟨_, _, _, e8, _, _, _, hrq⟩ := HSQ.out
      cases e8
      obtain ⟨bq, oq, rfl, hbq, d0, d1, d2⟩ := Rd.quot hrq hq
      obtain ⟨_, _, _, e8, _, _, _, hrw⟩ := HVW.out
      cases e8
      obtain ⟨bw, ow, rfl, hbw, e0, e1, e2⟩ := Rd.quot hrw hz
      have E := Lib.hid (fun W (hW : Below w7.heap.size w7 W) => (⟨(hW.cell (p := ⟨g6, 0, none⟩) HG7.out.2).trans HG7.out.1, (hW.cell (p := ⟨bq, oq + k * 3, none⟩) hbq).trans d0, (hW.cell (p := ⟨bq, oq + k * 3 + 1, none⟩) hbq).trans d1, (hW.cell (p := ⟨bq, oq + k * 3 + 2, none⟩) hbq).trans d2, (hW.cell (p := ⟨bw, ow + k * 3, none⟩) hbw).trans e0, (hW.cell (p := ⟨bw, ow + k * 3 + 1, none⟩) hbw).trans e1, (hW.cell (p := ⟨bw, ow + k * 3 + 2, none⟩) hbw).trans e2⟩ : And _ (And _ (And _ (And _ (And _ (And _ _)))))))
      have hwk : IntKind.i64.wrap ((k : Int) + 1) = (k : Int) + 1 := by rw [IntKind.wrap_i64]; omega
      have HN := Lib.hid (show ∀ W, In w7 [] W → LsRel w7 L.length (.int .i64 ((k : Int) + 1)) W from fun W hW => ⟨k + 1, hin, by simp, hW⟩)
      replace hI := hI.alloc 28 #[.bool klen.neg, .string klen.num, .string klen.den, .bool klow.neg, .string klow.num, .string klow.den, .bool khigh.neg, .string khigh.num, .string khigh.den, .bool kspeed.neg, .string kspeed.num, .string kspeed.den, .bool kbrake.neg, .string kbrake.num, .string kbrake.den, .slice A5 n5 c5]
      obtain ⟨g7, hg7⟩ : ∃ g, g = wr.heap.size := ⟨_, rfl⟩
      clear ha hq hz lz z1 z2 z3 llow lhigh lspeed lq qy ly qu lu p1 p2 p3 hrq hrw d0 d1 d2 e0 e1 e2 hbq hbw
      go_upto_region 12 with (fail)
      clear f0 f1 f2 f3 f4 f5 f6 f7 f8 f9 f10 f11 f12 f13 f14 f15 hbn hbB
      rw [← hg7] at hI ⊢
      generalize World.alloc _ _ = W2 at hI ⊢
      clear hg7
      refine wp_region_in_float 10 _ 25 #[.bool false, .string { data := #[] }, .string { data := #[] }] hI (by kernel_rfl) (by kernel_rfl) rfl ?_
      simp only [List.take_succ_cons, List.take_zero, List.drop_succ_cons, List.drop_zero]
      repeat (first
        | (refine wpSeq_off (by rfl) ?_; try simp only [Act.put, List.setIfInBounds_toArray, List.set_cons_zero, List.set_cons_succ])
        | (refine wpSeq_val (v := ?_) (by rfl) (fun W hS => ?_) ?_
           rotate_left
           · (have fx := hS.facts; simp only [factsOf, cellsOf, Nat.zero_add, Nat.reduceAdd] at fx; have fy0 := E.out W hS.bel; clear hS; go_simp; first | done | with_reducible rfl)
           try simp only [Act.put, List.setIfInBounds_toArray, List.set_cons_zero, List.set_cons_succ]))
      refine wpSeq_call (v := .agg #[.bool y.neg, .string y.num, .string y.den]) (by rfl) (fun W hS => ?_) (fun W hS => (AD.out W hS.bel)) ?_
      · (clear hS; go_simp; done)
      try simp only [Act.put, List.setIfInBounds_toArray, List.set_cons_zero, List.set_cons_succ]
      repeat (first
        | (refine wpSeq_off (by rfl) ?_; try simp only [Act.put, List.setIfInBounds_toArray, List.set_cons_zero, List.set_cons_succ])
        | (refine wpSeq_val (v := ?_) (by rfl) (fun W hS => ?_) ?_
           rotate_left
           · (have fx := hS.facts; simp only [factsOf, cellsOf, Nat.zero_add, Nat.reduceAdd] at fx; have fy0 := E.out W hS.bel; clear hS; go_simp; first | done | with_reducible rfl)
           try simp only [Act.put, List.setIfInBounds_toArray, List.set_cons_zero, List.set_cons_succ]))
      refine wpSeq_nil ⟨rfl, fun W hS => ?_, fun g W hI => ?_⟩
      · go_simp
      simp only [List.setIfInBounds_toArray, List.set_cons_zero, List.set_cons_succ]
      have hS1 := hI.take (a := [_])
      have fx := hS1.facts
      simp only [factsOf, cellsOf, Nat.zero_add, Nat.reduceAdd] at fx
      have hz := fun i => hS1.free (k := 0) (i := i) rfl
      have HX := Lib.hid (hI.all3 (a := []) (.bool y.neg) (.string y.num) (.string y.den))
      clear hS1 hI AD
      go_upto_region 13 with (fail)
      have hI : In w7 (_ :: _ :: _) _ := HX.out
      clear HX fx hz
      generalize World.setCell _ _ _ = W6 at hI ⊢
      refine wp_region_in hI (by kernel_rfl) (by kernel_rfl) ?_
      repeat (first
        | (refine wpSeq_off (by rfl) ?_; try simp only [Act.put, List.setIfInBounds_toArray, List.set_cons_zero, List.set_cons_succ])
        | (refine wpSeq_val (v := ?_) (by rfl) (fun W hS => ?_) ?_
           rotate_left
           · (have fx := hS.facts; simp only [factsOf, cellsOf, Nat.zero_add, Nat.reduceAdd] at fx; have fy0 := E.out W hS.bel; clear hS; go_simp; first | done | with_reducible rfl)
           try simp only [Act.put, List.setIfInBounds_toArray, List.set_cons_zero, List.set_cons_succ]))
      refine wpSeq_call (v := .agg #[.bool u.neg, .string u.num, .string u.den]) (by rfl) (fun W hS => ?_) (fun W hS => (AB.out W hS.bel)) ?_
      · (clear hS; go_simp; done)
      try simp only [Act.put, List.setIfInBounds_toArray, List.set_cons_zero, List.set_cons_succ]
      repeat (first
        | (refine wpSeq_off (by rfl) ?_; try simp only [Act.put, List.setIfInBounds_toArray, List.set_cons_zero, List.set_cons_succ])
        | (refine wpSeq_val (v := ?_) (by rfl) (fun W hS => ?_) ?_
           rotate_left
           · (have fx := hS.facts; simp only [factsOf, cellsOf, Nat.zero_add, Nat.reduceAdd] at fx; have fy0 := E.out W hS.bel; clear hS; go_simp; first | done | with_reducible rfl)
           try simp only [Act.put, List.setIfInBounds_toArray, List.set_cons_zero, List.set_cons_succ]))
      refine wpSeq_call (v := .int .i64 c1) (by rfl) (fun W hS => ?_) (fun W hS => (C1.out W hS.bel)) ?_
      · (clear hS; go_simp; done)
      try simp only [Act.put, List.setIfInBounds_toArray, List.set_cons_zero, List.set_cons_succ]
      repeat (first
        | (refine wpSeq_off (by rfl) ?_; try simp only [Act.put, List.setIfInBounds_toArray, List.set_cons_zero, List.set_cons_succ])
        | (refine wpSeq_val (v := ?_) (by rfl) (fun W hS => ?_) ?_
           rotate_left
           · (have fx := hS.facts; simp only [factsOf, cellsOf, Nat.zero_add, Nat.reduceAdd] at fx; have fy0 := E.out W hS.bel; clear hS; go_simp; first | done | with_reducible rfl)
           try simp only [Act.put, List.setIfInBounds_toArray, List.set_cons_zero, List.set_cons_succ]))
      refine wpSeq_call (v := .int .i64 c2) (by rfl) (fun W hS => ?_) (fun W hS => (C2.out W hS.bel)) ?_
      · (clear hS; go_simp; done)
      try simp only [Act.put, List.setIfInBounds_toArray, List.set_cons_zero, List.set_cons_succ]
      repeat (first
        | (refine wpSeq_off (by rfl) ?_; try simp only [Act.put, List.setIfInBounds_toArray, List.set_cons_zero, List.set_cons_succ])
        | (refine wpSeq_val (v := ?_) (by rfl) (fun W hS => ?_) ?_
           rotate_left
           · (have fx := hS.facts; simp only [factsOf, cellsOf, Nat.zero_add, Nat.reduceAdd] at fx; have fy0 := E.out W hS.bel; clear hS; go_simp; first | done | with_reducible rfl)
           try simp only [Act.put, List.setIfInBounds_toArray, List.set_cons_zero, List.set_cons_succ]))
      refine wpSeq_call (v := .int .i64 c3) (by rfl) (fun W hS => ?_) (fun W hS => (C3.out W hS.bel)) ?_
      · (clear hS; go_simp; done)
      try simp only [Act.put, List.setIfInBounds_toArray, List.set_cons_zero, List.set_cons_succ]
      repeat (first
        | (refine wpSeq_off (by rfl) ?_; try simp only [Act.put, List.setIfInBounds_toArray, List.set_cons_zero, List.set_cons_succ])
        | (refine wpSeq_val (v := ?_) (by rfl) (fun W hS => ?_) ?_
           rotate_left
           · (have fx := hS.facts; simp only [factsOf, cellsOf, Nat.zero_add, Nat.reduceAdd] at fx; have fy0 := E.out W hS.bel; clear hS; go_simp; first | done | with_reducible rfl)
           try simp only [Act.put, List.setIfInBounds_toArray, List.set_cons_zero, List.set_cons_succ]))
      refine wpSeq_nil (fun W hS => ?_)
      have HX := Lib.hid (HN.out _ hS.tail.tail)
      clear hS hI E AB C1 C2 C3
      go_wp2_with fail
      go_roundw
      case rel => exact HX.out
      case measure => simp [intOf]; omega
    · obtain rfl : k = L.length := by omega
      have hi1 : ¬ (L.length : Int) < (L.length : Int) := by omega
      have hfin := HBW.out.trans (hI.bel.mono HBW.out.size)
      clear hI
      go_wp2
      go_ret
      exact ⟨rfl, hfin⟩
end Go.Proofs.YtnnbnecpcppkdaaDoor.ctlBounds
