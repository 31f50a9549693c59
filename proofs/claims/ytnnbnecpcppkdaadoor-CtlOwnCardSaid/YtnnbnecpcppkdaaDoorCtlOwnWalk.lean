/- CtlOwn: the walk. Conditions: those typed. -/
import Derived.Test.YtnnbnecpcppkdaaDoorState
import Derived.Test.YtnnbnecpcppkdaaDoorCtlQ
import Derived.Test.YtnnbnecpcppkdaaDoorCtlS
import Derived.Test.YtnnbnecpcppkdaaDoorCtlM
import Derived.Test.YtnnbnecpcppkdaaDoorArgQ
import Derived.Test.YtnnbnecpcppkdaaDoorEqualQ
namespace Go.Proofs.YtnnbnecpcppkdaaDoor.ctlOwn
open Go.RowKit Go.Gy
set_option linter.unusedVariables false
set_option linter.unusedSimpArgs false
theorem wf_i64 {n : Int} (h : wfI .i64 n) : -9223372036854775808 ≤ n ∧ n ≤ 9223372036854775807 := by
  simpa [wfI, Lit.wf, IntKind.min, IntKind.max, IntKind.signed, IntKind.bits] using h
theorem KyLe.more {K : List Ky} {N M : Nat} (h : KyLe K N) (hM : N ≤ M) : KyLe K M := fun k hk => ⟨fun x hx => ((h k hk).1 x hx).more hM, (h k hk).2⟩
/-- a track whose cells have changed -/
def OwR (lo hi : Nat) (w7 : World) (v : Value) (K : List Ky) (W : World) : Prop := Aside lo hi w7 W ∧ Head lo W v K ∧ KRows lo W K
theorem OwR.call {lo hi : Nat} {w7 : World} {v : Value} {K : List Ky} {W W' : World} (h : OwR lo hi w7 v K W) (hb : Below W.heap.size W W') : OwR lo hi w7 v K W' := ⟨h.1.call hb, h.2.1.call hb, h.2.2.call hb⟩
theorem OwR.tick {lo hi g c : Nat} {w7 : World} {K : List Ky} {W : World} (h : OwR lo hi w7 (.slice (some ⟨g, 0, none⟩) K.length c) K W) (h1 : lo ≤ g) (h2 : g < hi) (i : Nat) (t : Int) : OwR lo hi w7 (.slice (some ⟨g, 0, none⟩) K.length c) K (W.setCell ⟨g, i * 2, none⟩ (.int .i64 t)) :=
  ⟨h.1.set h1 h2 _ _, h.2.1.tick rfl i t, h.2.2.set _ _ _⟩
theorem OwR.one {lo hi : Nat} {w7 : World} {v : Value} {K : List Ky} {W : World} (h : OwR lo hi w7 v K W) {k : Ky} (hk : k ∈ K) {g : Nat} (hg : k.2.1.ownBlock = some g) (h1 : lo ≤ g) (h2 : g < hi) (j : Nat) (u : Value) : OwR lo hi w7 v K (W.setCell ⟨g, j, none⟩ u) := by
  obtain ⟨xs, hx⟩ := h.2.2 k hk
  exact ⟨h.1.set h1 h2 _ _, h.2.1.far (h.2.1.ne hx hg) _ _, h.2.2.set _ _ _⟩
theorem OwR.num {lo hi : Nat} {w7 : World} {v : Value} {K : List Ky} {W : World} (h : OwR lo hi w7 v K W) {k : Ky} (hk : k ∈ K) {g : Nat} (hg : k.2.1.ownBlock = some g) (h1 : lo ≤ g) (h2 : g < hi) (j : Nat) (q : Q3) :
    OwR lo hi w7 v K (((W.setCell ⟨g, j * 3, none⟩ (.bool q.neg)).setCell ⟨g, j * 3 + 1, none⟩ (.string q.num)).setCell ⟨g, j * 3 + 2, none⟩ (.string q.den)) :=
  ((h.one hk hg h1 h2 _ _).one hk hg h1 h2 _ _).one hk hg h1 h2 _ _
def OwRel (lo hi : Nat) (w7 : World) (v : Value) (K : List Ky) (i : Value) (wr : World) : Prop := ∃ k : Nat, k ≤ K.length ∧ i = .int .i64 k ∧ OwR lo hi w7 v K wr
def OiRel (lo hi : Nat) (w7 : World) (v : Value) (K : List Ky) (n : Nat) (i : Value) (wr : World) : Prop := ∃ j : Nat, j ≤ n ∧ i = .int .i64 j ∧ OwR lo hi w7 v K wr
def OkRel (lo hi : Nat) (w7 : World) (v : Value) (K : List Ky) (n g : Nat) (cs : Array Value) (i : Value) (wr : World) : Prop := ∃ j : Nat, j ≤ n ∧ i = .int .i64 j ∧ OwR lo hi w7 v K wr ∧ Blk wr g 89 cs
set_option maxRecDepth 100000 in
set_option maxHeartbeats 8000000 in
theorem walk (v0 v1 : Value) (tick : Int) (w : World) {b0 b1 : Nat} (f0 : IntsArg w v0 b0) (f1 : IntsArg w v1 b1) (wt : wfI .i64 tick) (hT : TabW w) :
    Calls Tryd.prog 10 #[v0, v1, .int .i64 tick] w fun e w' => e = .returned (.bool true) ∧ Below w.heap.size w w' := by
  obtain ⟨r0, hl0, _, _, hrb0⟩ := f0
  obtain ⟨r1, hl1, hi1, _, hrb1⟩ := f1
  have HTI := Lib.hid (show InI tick from wf_i64 wt)
  have HI1 := Lib.hid hi1
  have HT := Lib.hid hT
  have HA := Lib.hid (fun W (hW : Below w.heap.size w W) => armMake W v0 r0 ((hl0.below hW).more hW.size) (by unfold reachBytes at hrb0; omega))
  have HL1 := Lib.hid hl1
  have HR1 := Lib.hid (show r1.length ≤ 140737488355328 by unfold reachBytes at hrb1; omega)
  clear hl0 hl1 hrb0 hrb1 hT hi1 wt
  go_enter Tryd.func10, Tryd.ntmps10
  go_wp2_with fail
  refine (HA.out _ (Below.refl _ _)).mono ?_
  rintro e w1 ⟨a, he, hG, hAt, hb1⟩
  have HG := Lib.hid hG
  have HB1 := Lib.hid hb1
  have HNW := Lib.hid (fun W (hW : Below w1.heap.size w1 W) => new_ctl W (tabs w HT.out (hb1.trans (hW.mono hb1.size))) a (hAt.up hW) hG.le (by decide))
  have HTM := Lib.hid (fun W (hW : Below w1.heap.size w1 W) => trackMake W a hG (hAt.up hW) v1 r1 ((HL1.out.below (hb1.trans (hW.mono hb1.size))).more (hb1.trans (hW.mono hb1.size)).size) HR1.out)
  have HST := Lib.hid (fun W (hW : Below w1.heap.size w1 W) => state_own W (tabs w HT.out (hb1.trans (hW.mono hb1.size))) a hG (hAt.up hW) v1 r1 ((HL1.out.below (hb1.trans (hW.mono hb1.size))).more (hb1.trans (hW.mono hb1.size)).size) HR1.out HI1.out)
  obtain ⟨ar, har⟩ : ∃ ar, ar = a := ⟨_, rfl⟩
  rw [← har] at HNW HTM HG HST
  obtain ⟨nm, ⟨px, py⟩, hf, t, va, L⟩ := a
  obtain ⟨⟨A, N, C, hva, hNL, hNC, _, hrd⟩, hshp⟩ := hAt
  obtain rfl : va = .slice A N C := hva
  have hval : ar.val = .agg #[.string nm, .bool px.neg, .string px.num, .string px.den, .bool py.neg, .string py.num, .string py.den, .bool hf, .bool t.neg, .string t.num, .string t.den, .slice A N C] := by rw [har]; rfl
  have he : e = .returned (.agg #[.string nm, .bool px.neg, .string px.num, .string px.den, .bool py.neg, .string py.num, .string py.den, .bool hf, .bool t.neg, .string t.num, .string t.den, .slice A N C]) := he
  subst he
  rw [hval] at HNW HTM HST
  have HNL := Lib.hid (show N = ar.L.length from by rw [har, ← hNL, Ar.ks_len])
  clear hb1 HA hG hrd hshp hNL HL1 HR1 HI1 hval hNC har
  have hI := (In.start w1).alloc 37 #[.string nm, .bool px.neg, .string px.num, .string px.den, .bool py.neg, .string py.num, .string py.den, .bool hf, .bool t.neg, .string t.num, .string t.den, .slice A N C]
  obtain ⟨g5, hg5⟩ : ∃ g, g = w1.heap.size := ⟨_, rfl⟩
  go_upto_region 2 with (fail)
  rw [← hg5] at hI ⊢
  generalize World.alloc _ _ = W1 at hI ⊢
  clear hg5
  have fx := hI.facts
  simp only [factsOf, cellsOf, Nat.zero_add, Nat.reduceAdd] at fx
  go_wp2_with fail
  refine (HTM.out _ hI.bel).mono ?_
  rintro e w2 ⟨vt, K, rfl, hne, hK4, hgk, hown, hb⟩
  have hlo5 := hI.lt (k := 0) rfl
  have hlo1 := hI.bel.size
  obtain ⟨lo, hlo⟩ : ∃ lo, lo = W1.heap.size := ⟨_, rfl⟩
  rw [← hlo] at hown hlo5 hlo1
  obtain ⟨gt, ct, rfl, _, hgt1, hgt2⟩ := own_shape hown.1 (List.length_pos_iff.mpr hne)
  have HK := Lib.hid (show K ≠ [] ∧ K.length ≤ 4 ∧ GenK ar.L K from ⟨hne, hK4, hgk⟩)
  have HLO := Lib.hid (show g5 < lo ∧ w1.heap.size ≤ lo ∧ lo ≤ w2.heap.size ∧ lo ≤ gt ∧ gt < w2.heap.size from ⟨hlo5, hlo1, by have := hb.size; omega, hgt1, hgt2⟩)
  have HKB := Lib.hid (show ∀ k ∈ K, ∀ g n c, k.2.1 = .slice (some ⟨g, 0, none⟩) n c → lo ≤ g ∧ g < w2.heap.size from fun k hk g n c e => (hown.2 k hk).lt g (by rw [e]; rfl))
  replace hI := hI.call hb
  have HKT := Lib.hid hown
  have HKO := Lib.hid (show SlK w2 w2.heap.size _ K from hown.slK)
  clear hb hown hne hK4 hgk fx HTM hlo5 hlo1 hgt1 hgt2 hlo
  have fx := hI.facts
  simp only [factsOf, cellsOf, Nat.zero_add, Nat.reduceAdd] at fx
  go_wp2_with fail
  refine (HNW.out _ hI.bel).mono ?_
  rintro e w3 ⟨hb, ⟨c, hc, hE, _⟩ | ⟨hE, p, a', rfl, hok⟩⟩
  · exact absurd (hE.uniq HG.out.ok) hc
  have hp5 : w2.heap.size ≤ p := hok.2.2.1
  have HSA := Lib.hid hok.1
  have HOV := Lib.hid (show ∀ A n c, a'.v = .slice A n c → OutOf w2.heap.size A from fun A n c e => by
    have h := hok.2.2.2.2.2.1
    rw [e] at h
    exact out_own h (Nat.le_refl _))
  have HOS := Lib.hid (show ∀ y ∈ a'.L, ∀ A n c, y.1.shape = .slice A n c → OutOf w2.heap.size A from fun y hy A n c e => by
    have h := hok.2.2.2.2.2.2 y hy
    rw [e] at h
    exact out_own h (Nat.le_refl _))
  have hC := hok.at
  replace hI := hI.call hb
  have hsl3 := HKO.out.up hb
  have HB3 := Lib.hid hb
  have hbw := HB1.out.trans (hI.bel.mono HB1.out.size)
  have HSET := Lib.hid (set_ctl w3 (tabs w HT.out hbw) p a' (.slice none 0 0) (.slice (some ⟨gt, 0, none⟩) K.length ct) K (N := 4) hC (HSA.out.le HG.out.le) hsl3 (KyLe.more (HK.out.2.2.le HG.out.len.2) (by decide)) (fun k hk => by
    obtain ⟨q1, q2⟩ := (HK.out.2.2.ky HK.out.2.1).1 k hk
    exact ⟨by omega, by omega⟩) (by have := HK.out.2.1; omega) (by decide) ⟨none, 0, 0, rfl⟩)
  have hkl : ((K.length : Int) == 0) = false := beq_eq_false_iff_ne.mpr (by have := List.length_pos_iff.mpr HK.out.1; omega)
  clear hok hE hb hsl3 hC fx HNW
  clear hbw
  go_wp2_with fail
  refine HSET.out.mono ?_
  rintro e w4 ⟨c, rfl, hTE, hbp, hsz, hor⟩
  obtain rfl : c = 0 := hTE.uniq ((gen_track HG.out HK.out.1 HK.out.2.1 HK.out.2.2).same HSA.out)
  obtain ⟨v', K', hC, hown, hsk⟩ : ∃ (v' : Value) (K' : List Ky), CtlAt w4 p a' v' ∧ KOwn w3.heap.size w4 v' K' ∧ SameK K K' := by
    rcases hor with ⟨h, _⟩ | ⟨_, h⟩
    · exact absurd rfl h
    · exact h
  have HP5 := Lib.hid hp5
  have h21 : w1.heap.size ≤ p := Nat.le_trans HLO.out.2.1 (Nat.le_trans HLO.out.2.2.1 hp5)
  have h5p : g5 < p := Nat.lt_of_lt_of_le HLO.out.1 (Nat.le_trans HLO.out.2.2.1 hp5)
  replace hI := hI.callB hbp h21 (fun x hx => by
    rcases List.mem_cons.1 hx with rfl | hx
    · exact h5p
    · cases hx)
  have HW4 := Lib.hid (show w2.heap.size ≤ w3.heap.size ∧ w3.heap.size ≤ w4.heap.size from ⟨HB3.out.size, hsz⟩)
  have HKT4 := Lib.hid (show KOwn lo w4 _ K from HKT.out.below (HB3.out.trans (hbp.mono hp5)))
  have HC := Lib.hid hC
  have HKP := Lib.hid hown
  obtain ⟨Av', cv', rfl, _⟩ := own_rd hown.1
  have HSK := Lib.hid hsk
  clear hTE hbp hsz hor hC hown hsk hp5 HSET HKO HB3 HKT h21 h5p
  have hJ : Below w4.heap.size w4 w4 := Below.refl _ _
  have fx := hI.facts
  simp only [factsOf, cellsOf, Nat.zero_add, Nat.reduceAdd] at fx
  go_wp2_with fail
  refine (HST.out _ hI.bel).mono ?_
  rintro e w6 ⟨vq, vv, qs, vs, rfl, hql, hqs, _, _, hsq, hsv, hb, bq, nq, Cq, rfl, hbq⟩
  obtain ⟨_, _, _, he8, hnq, _⟩ := id hsq
  cases he8
  obtain ⟨Av, nv, Cv, rfl, _⟩ := id hsv
  subst hnq
  replace hI := hI.call hb
  replace hJ := hJ.trans (hb.mono hJ.size)
  have HQL := Lib.hid hql
  have HQS := Lib.hid hqs
  have HBQ := Lib.hid (show w2.heap.size ≤ bq from by have := HW4.out; omega)
  clear fx hb HST hsv hql hqs hbq
  have hba : Below w6.heap.size w6 (w6.alloc (.cells #[.slice (some ⟨bq, 0, none⟩) qs.length Cq, .slice Av nv Cv, .bool true, .int .i64 (-1)] 61)) := (Below.refl _ _).alloc (Nat.le_refl _) _
  replace hI := hI.alloc 61 #[.slice (some ⟨bq, 0, none⟩) qs.length Cq, .slice Av nv Cv, .bool true, .int .i64 (-1)]
  have hg6 : w4.heap.size ≤ w6.heap.size := hJ.size
  replace hJ := hJ.trans (hba.mono hJ.size)
  have hsq := SlQ.up hsq hba
  obtain ⟨g6, hg6e⟩ : ∃ g, g = w6.heap.size := ⟨_, rfl⟩
  clear hba
  go_upto_region 7 with (fail)
  rw [← hg6e] at hI hg6 ⊢
  generalize World.alloc _ _ = W3 at hI hJ hsq ⊢
  clear hg6e
  have HG6 := Lib.hid (show w2.heap.size ≤ g6 from by have := HW4.out; omega)
  have HLQ := Lib.hid (show ∀ x ∈ qs, x.le 1 from fun x hx => by
    obtain ⟨j, hj, rfl⟩ := List.getElem_of_mem hx
    have h1 : j < ar.L.length := by rw [← HQL.out]; exact hj
    exact (HQS.out.2 j _ _ (List.getElem?_eq_getElem hj) (List.getElem?_eq_getElem h1)).2.1)
  have hlen := HSK.out.length
  have HWI := Lib.hid (fun W (hTW : TabW W) (hC : CtlAt W p a' (.slice Av' K'.length cv')) (hv : SlK W W.heap.size (.slice Av' K'.length cv') K') (hsq : SlQ W W.heap.size (.slice (some ⟨bq, 0, none⟩) qs.length Cq) qs) => wish_ctl W hTW p a' (.slice Av' K'.length cv') K' tick (.slice (some ⟨bq, 0, none⟩) qs.length Cq) (.slice Av nv Cv) qs true (-1) (N := 4) hC (HSA.out.le HG.out.le) (by rw [HSA.out.2.2.2.2.1]; exact HG.out.len.2) hv (KyLe.more (HSK.out.le (HK.out.2.2.le HG.out.len.2)) (by decide)) (HSK.out.ok (HK.out.2.2.ky HK.out.2.1)) (fun k hk => by
    obtain ⟨k', h1, _, h2⟩ := HSK.out.mem hk
    rw [HSA.out.2.2.2.2.1, ← HK.out.2.2.len k' h1, h2]) (by have := HK.out.2.1; omega) HTI.out hsq (fun x hx => (HLQ.out x hx).more (by decide)) (by rw [HSA.out.2.2.2.2.1]; exact HQL.out) ⟨_, _, _, rfl⟩ (by decide))
  have HBW := Lib.hid (HB1.out.trans (hI.bel.mono HB1.out.size))
  have HKP3 := Lib.hid (HKP.out.below hJ)
  have HC3 := Lib.hid (HC.out.below hJ)
  have HSQ3 := Lib.hid hsq
  have HKT3 := Lib.hid (HKT4.out.below hJ)
  have HW3s := Lib.hid (show w4.heap.size ≤ W3.heap.size from hJ.size)
  clear hsq hlen hJ hg6 HC HKP HKT4 HLQ HQS
  have fx := hI.facts
  simp only [factsOf, cellsOf, Nat.zero_add, Nat.reduceAdd] at fx
  go_wp2_with fail
  refine (HWI.out W3 (tabs w HT.out HBW.out) HC3.out HKP3.out.slK HSQ3.out).mono ?_
  rintro e w7 ⟨vw, rfl, hown, hb⟩
  obtain ⟨n, hn⟩ : ∃ n, n = a'.L.length := ⟨_, rfl⟩
  have HN := Lib.hid hn
  rw [← hn] at hown HWI
  obtain ⟨RW, hRW⟩ : ∃ RW, RW = wishL a'.L qs (goalL K' tick qs) n := ⟨_, rfl⟩
  rw [← hRW] at hown HWI
  obtain ⟨Aw, cw, rfl, _⟩ := own_rd hown
  have HVW := Lib.hid hown
  replace hI := hI.call hb
  have HI7 := Lib.hid hI
  have HBW7 := Lib.hid (HBW.out.trans (hb.mono HBW.out.size))
  have HKP7 := Lib.hid (HKP3.out.below hb)
  have HC7 := Lib.hid (HC3.out.below hb)
  have HSQ7 := Lib.hid (SlQ.up HSQ3.out hb)
  have HKT7 := Lib.hid (HKT3.out.below hb)
  have HBB := Lib.hid (show w.heap.size ≤ lo ∧ lo ≤ w7.heap.size ∧ w2.heap.size ≤ W3.heap.size from by
    have h1 := HB1.out.size
    have h2 := HLO.out
    have h3 := HW4.out
    have h4 := HW3s.out
    have h5 := hb.size
    omega)
  have hn0 : 0 < n := by have := HG.out.len.1; have h2 := HSA.out.2.2.2.2.1; omega
  have hn3 : n ≤ 3 := by have := HG.out.len.2; have h2 := HSA.out.2.2.2.2.1; omega
  have HKN := Lib.hid (show ∀ k ∈ K, k.2.2.length = n from fun k hk => by rw [HK.out.2.2.len k hk, hn, HSA.out.2.2.2.2.1])
  have HKN' := Lib.hid (show ∀ k ∈ K', k.2.2.length = n from fun k hk => by
    obtain ⟨k', h1, _, h2⟩ := HSK.out.mem hk
    rw [← HKN.out k' h1, h2])
  have hnN : ((n : Int) == (N : Int)) = true := by
    have : n = N := by rw [hn, HNL.out]; exact HSA.out.2.2.2.2.1
    simp [this]
  have HNN := Lib.hid hnN
  obtain ⟨z9, _, _, _, O9⟩ := ofR w HT.out 9
  obtain ⟨z7, _, _, _, O7⟩ := ofR w HT.out 7
  have hst := Lib.hid (show OwRel lo w2.heap.size w7 (.slice (some ⟨gt, 0, none⟩) K.length ct) K (.int .i64 0) w7 from ⟨0, Nat.zero_le _, rfl, Aside.refl _ _ _, HKT7.out.head, HKT7.out.krows⟩)
  have hK4 : K.length ≤ 4 := HK.out.2.1
  have HB := Lib.hid (show ∀ wi, Aside lo w2.heap.size w7 wi → Below w.heap.size w wi from fun wi hA => HBW7.out.trans ((hA.below HBB.out.2.1).mono HBB.out.1))
  clear fx hI hown hb HKP3 HC3 HSQ3 HKT3 hn hRW HBW HKT7 HNL HW3s hnN
  go_wp2_with fail
  go_loopw [55] (fun i wr => OwRel lo w2.heap.size w7 (.slice (some ⟨gt, 0, none⟩) K.length ct) K i wr) (fun i _ => K.length - (intOf i).toNat)
  case atStart => exact hst.out
  case round =>
    clear hst
    obtain ⟨k, hk, rfl, hO⟩ := hrel
    obtain ⟨w0, rfl⟩ : ∃ w0, w0 = wr := ⟨_, rfl⟩
    by_cases hin : k < K.length
    · as_aux_lemma =>
      have hi1 : (k : Int) < (K.length : Int) := by omega
      have hi2 : 0 ≤ (k : Int) ∧ (k : Int) < (K.length : Int) := by omega
      have hin0 : 0 < K.length := by omega
      have hwk : IntKind.i64.wrap ((k : Int) + 1) = (k : Int) + 1 := by rw [IntKind.wrap_i64]; omega
      obtain ⟨kk, hkk⟩ : ∃ kk, K[k]? = some kk := ⟨_, List.getElem?_eq_getElem hin⟩
      have hkm := List.mem_of_getElem? hkk
      obtain ⟨gq, cq, hkv, _, _⟩ := hO.2.2.get hkm (by rw [HKN.out kk hkm]; exact hn0)
      rw [HKN.out kk hkm] at hkv
      obtain ⟨hgq1, hgq2⟩ := HKB.out kk hkm gq n cq hkv
      have HKV := Lib.hid hkv
      have HKK := Lib.hid (And.intro hkk hkm)
      obtain ⟨⟨t0, c0⟩, c1, hz⟩ := hO.2.1.cells hkk
      rw [hkv] at c1
      have HO := Lib.hid (hO.tick HLO.out.2.2.2.1 HLO.out.2.2.2.2 k 0)
      clear hO hkk hkm hkv
      go_upto_region 12 with (fail)
      have hO := HO.out
      clear HO c0 c1 hz
      generalize World.setCell _ _ _ = W8 at hO ⊢
      obtain ⟨_, c1, _⟩ := hO.2.1.cells HKK.out.1
      rw [HKV.out] at c1
      have hst2 := Lib.hid (show OiRel lo w2.heap.size w7 (.slice (some ⟨gt, 0, none⟩) K.length ct) K n (.int .i64 0) W8 from ⟨0, Nat.zero_le _, rfl, hO⟩)
      clear hO
      go_wp2_with fail
      clear c1
      go_loopw [68] (fun i wr => OiRel lo w2.heap.size w7 (.slice (some ⟨gt, 0, none⟩) K.length ct) K n i wr) (fun i _ => n - (intOf i).toNat)
      case atStart => exact hst2.out
      case round =>
        clear hst2
        obtain ⟨j, hj, rfl, hO⟩ := hrel
        obtain ⟨wi, rfl⟩ : ∃ wi, wi = wr := ⟨_, rfl⟩
        by_cases hjn : j < n
        · have hj1 : (j : Int) < (n : Int) := by omega
          have hj2 : 0 ≤ (j : Int) ∧ (j : Int) < (n : Int) := by omega
          have hwj : IntKind.i64.wrap ((j : Int) + 1) = (j : Int) + 1 := by rw [IntKind.wrap_i64]; omega
          obtain ⟨_, c1, _⟩ := hO.2.1.cells HKK.out.1
          rw [HKV.out] at c1
          have hbl := HB.out wi hO.1
          have hgl : gt < wi.heap.size := hO.2.1.lt hin0
          have E := Lib.hid (fun W (hW : Below wi.heap.size wi W) => ((hW.cell (p := ⟨gt, k * 2 + 1, none⟩) hgl).trans c1))
          have O9i := Lib.hid (fun W (hW : Below wi.heap.size wi W) => O9.out W (hbl.trans (hW.mono hbl.size)))
          have HO := Lib.hid hO
          have hI2 := In.start wi
          clear hO c1 hbl hgl
          go_upto_region 15 with (fail)
          refine wp_region_in_tail 8 hI2 (by kernel_rfl) (by kernel_rfl) ?_
          simp only [List.take_succ_cons, List.take_zero, List.drop_succ_cons, List.drop_zero]
          repeat (first
            | (refine wpSeq_off (by rfl) ?_; try simp only [Act.put, List.setIfInBounds_toArray, List.set_cons_zero, List.set_cons_succ])
            | (refine wpSeq_val (v := ?_) (by rfl) (fun W hS => ?_) ?_
               rotate_left
               · (have fy0 := E.out W hS.bel; clear hS; go_simp; first | done | with_reducible rfl)
               try simp only [Act.put, List.setIfInBounds_toArray, List.set_cons_zero, List.set_cons_succ]))
          refine wpSeq_call (v := .agg #[.bool z9.neg, .string z9.num, .string z9.den]) (by rfl) (fun W hS => ?_) (fun W hS => (O9i.out W hS.bel)) ?_
          · (clear hS; go_simp; done)
          try simp only [Act.put, List.setIfInBounds_toArray, List.set_cons_zero, List.set_cons_succ]
          repeat (first
            | (refine wpSeq_off (by rfl) ?_; try simp only [Act.put, List.setIfInBounds_toArray, List.set_cons_zero, List.set_cons_succ])
            | (refine wpSeq_val (v := ?_) (by rfl) (fun W hS => ?_) ?_
               rotate_left
               · (have fy0 := E.out W hS.bel; clear hS; go_simp; first | done | with_reducible rfl)
               try simp only [Act.put, List.setIfInBounds_toArray, List.set_cons_zero, List.set_cons_succ]))
          refine wpSeq_nil (fun W hS => ?_)
          have hO8 := HO.out.call hS.bel
          have hcell := fun i => hO8.2.2.cell HKK.out.2 (by rw [HKN.out kk HKK.out.2]; exact HKV.out) i
          rw [HKN.out kk HKK.out.2] at hcell
          obtain ⟨u0, e0⟩ := (hcell (j * 3)).2 (by omega)
          obtain ⟨u1, e1⟩ := (hcell (j * 3 + 1)).2 (by omega)
          obtain ⟨u2, e2⟩ := (hcell (j * 3 + 2)).2 (by omega)
          have hz := fun i => (hcell i).1
          have HX := Lib.hid (hO8.num HKK.out.2 (by rw [HKV.out]; rfl) hgq1 hgq2 j z9)
          clear hS hO8 hI2 O9i E HO hcell
          go_upto_region 16 with (fail)
          have hO := HX.out
          clear HX e0 e1 e2 hz
          generalize World.setCell _ _ _ = W9 at hO ⊢
          have HX := Lib.hid hO
          clear hO
          go_wp2_with fail
          go_roundw
          case rel => exact ⟨j + 1, hjn, by simp, HX.out⟩
          case measure => simp [intOf]; omega
        · obtain rfl : j = n := by omega
          have hj1 : ¬ (j : Int) < (j : Int) := by omega
          have HX := Lib.hid hO
          clear hO
          go_wp2_with fail
          go_roundw
          case rel => exact ⟨k + 1, hin, by simp, HX.out⟩
          case measure => simp [intOf]; omega
    · obtain rfl : k = K.length := by omega
      have hi1 : ¬ (K.length : Int) < (K.length : Int) := by omega
      have hC0 := hO.1.ctl HC7.out HP5.out HOV.out HOS.out
      have hKP0 := hO.1.kown HKP7.out HW4.out.1
      have hbw0 := HB.out _ hO.1
      have HC0 := Lib.hid hC0
      have HKP0 := Lib.hid hKP0
      have HSQ0 := Lib.hid (hO.1.slQ HSQ7.out (fun x hx => by cases hx; exact HBQ.out))
      have HVW0 := Lib.hid (hO.1.own HVW.out HBB.out.2.2)
      have HB60 := Lib.hid (hO.1.blk (HI7.out.blkAt (k := 0) rfl) (.inr HG6.out))
      have HB50 := Lib.hid (hO.1.blk (HI7.out.blkAt (k := 1) rfl) (.inl HLO.out.1))
      have HBW0 := Lib.hid hbw0
      have HTR := Lib.hid (track_ctl w0 p a' _ K' hC0 hKP0.slK (by have := HSK.out.length; omega) (fun k hk => by have := HKN'.out k hk; omega))
      have hK'4 : K'.length ≤ 4 := by have := HSK.out.length; omega
      have hK'0 : 0 < K'.length := by have := HSK.out.length; have := List.length_pos_iff.mpr HK.out.1; omega
      clear hin hk hC0 hKP0 hbw0 hO HC7 HKP7 HSQ7 HVW HI7 HBW7 HB hK4
      go_wp2_with fail
      refine HTR.out.mono ?_
      rintro e w8 ⟨v8, K8, rfl, hown8, hsk8, hb8⟩
      have hl8 := hsk8.length
      obtain ⟨g8, c8, rfl, _, hg81, hg82⟩ := own_shape hown8.1 (by omega)
      have HKN8 := Lib.hid (show ∀ k ∈ K8, k.2.2.length = n from fun k hk => by
        obtain ⟨k', h1, _, h2⟩ := hsk8.mem hk
        rw [← HKN'.out k' h1, h2])
      have HKB8 := Lib.hid (show ∀ k ∈ K8, ∀ g n c, k.2.1 = .slice (some ⟨g, 0, none⟩) n c → w0.heap.size ≤ g ∧ g < w8.heap.size from fun k hk g n c e => (hown8.2 k hk).lt g (by rw [e]; rfl))
      have HB8 := Lib.hid hb8
      have hst3 := Lib.hid (show OwRel w0.heap.size w8.heap.size w8 (.slice (some ⟨g8, 0, none⟩) K8.length c8) K8 (.int .i64 0) w8 from ⟨0, Nat.zero_le _, rfl, Aside.refl _ _ _, hown8.head, hown8.krows⟩)
      have hK84 : K8.length ≤ 4 := by omega
      clear hown8 hsk8 hb8 hl8 hg81 hg82 HTR
      go_wp2_with fail
      go_loopw [84] (fun i wr => OwRel w0.heap.size w8.heap.size w8 (.slice (some ⟨g8, 0, none⟩) K8.length c8) K8 i wr) (fun i _ => K8.length - (intOf i).toNat)
      case atStart => exact hst3.out
      case round =>
        clear hst3
        obtain ⟨k, hk, rfl, hO⟩ := hrel
        obtain ⟨w9, rfl⟩ : ∃ w9, w9 = wr := ⟨_, rfl⟩
        by_cases hin : k < K8.length
        · as_aux_lemma =>
          have hi1 : (k : Int) < (K8.length : Int) := by omega
          have hi2 : 0 ≤ (k : Int) ∧ (k : Int) < (K8.length : Int) := by omega
          have hwk : IntKind.i64.wrap ((k : Int) + 1) = (k : Int) + 1 := by rw [IntKind.wrap_i64]; omega
          obtain ⟨kk, hkk⟩ : ∃ kk, K8[k]? = some kk := ⟨_, List.getElem?_eq_getElem hin⟩
          have hkm := List.mem_of_getElem? hkk
          obtain ⟨gq, cq, hkv, _, _⟩ := hO.2.2.get hkm (by rw [HKN8.out kk hkm]; exact hn0)
          rw [HKN8.out kk hkm] at hkv
          obtain ⟨hgq1, hgq2⟩ := HKB8.out kk hkm gq n cq hkv
          have HKV := Lib.hid hkv
          have HKK := Lib.hid (And.intro hkk hkm)
          obtain ⟨⟨t0, c0⟩, c1, _⟩ := hO.2.1.cells hkk
          rw [hkv] at c1
          have hO := hO.call ((Below.refl w9.heap.size w9).alloc (Nat.le_refl _) (.cells #[.int .i64 t0, .slice (some ⟨gq, 0, none⟩) n cq] 89))
          have hbk := Blk.new w9 89 #[.int .i64 t0, .slice (some ⟨gq, 0, none⟩) n cq]
          obtain ⟨g16, hg16⟩ : ∃ g, g = w9.heap.size := ⟨_, rfl⟩
          clear hkk hkm hkv
          go_upto_region 21 with (fail)
          rw [← hg16] at hbk ⊢
          clear hg16 c0 c1
          generalize World.alloc _ _ = W10 at hO hbk ⊢
          have e0 := hbk.cell 0 _ rfl
          have e1 := hbk.cell 1 _ rfl
          have hst4 := Lib.hid (show OkRel w0.heap.size w8.heap.size w8 (.slice (some ⟨g8, 0, none⟩) K8.length c8) K8 n g16 #[.int .i64 t0, .slice (some ⟨gq, 0, none⟩) n cq] (.int .i64 0) W10 from ⟨0, Nat.zero_le _, rfl, hO, hbk⟩)
          clear hO hbk
          go_wp2_with fail
          clear e0 e1
          go_loopw [91] (fun i wr => OkRel w0.heap.size w8.heap.size w8 (.slice (some ⟨g8, 0, none⟩) K8.length c8) K8 n g16 #[.int .i64 t0, .slice (some ⟨gq, 0, none⟩) n cq] i wr) (fun i _ => n - (intOf i).toNat)
          case atStart => exact hst4.out
          case round =>
            clear hst4
            obtain ⟨j, hj, rfl, hO, hbk⟩ := hrel
            obtain ⟨wi, rfl⟩ : ∃ wi, wi = wr := ⟨_, rfl⟩
            by_cases hjn : j < n
            · have hj1 : (j : Int) < (n : Int) := by omega
              have hj2 : 0 ≤ (j : Int) ∧ (j : Int) < (n : Int) := by omega
              have hwj : IntKind.i64.wrap ((j : Int) + 1) = (j : Int) + 1 := by rw [IntKind.wrap_i64]; omega
              have hbl : Below w.heap.size w wi := HBW0.out.trans ((HB8.out.trans (hO.1.below HB8.out.size)).mono HBW0.out.size)
              have e1 := hbk.cell 1 _ rfl
              have el := hbk.lt
              have E := Lib.hid (fun W (hW : Below wi.heap.size wi W) => ((hW.cell (p := ⟨g16, 1, none⟩) el).trans e1))
              have O7i := Lib.hid (fun W (hW : Below wi.heap.size wi W) => O7.out W (hbl.trans (hW.mono hbl.size)))
              have HO := Lib.hid (And.intro hO hbk)
              have hI2 := In.start wi
              clear hO hbk hbl e1 el
              go_upto_region 24 with (fail)
              refine wp_region_in_tail 5 hI2 (by kernel_rfl) (by kernel_rfl) ?_
              simp only [List.take_succ_cons, List.take_zero, List.drop_succ_cons, List.drop_zero]
              repeat (first
                | (refine wpSeq_off (by rfl) ?_; try simp only [Act.put, List.setIfInBounds_toArray, List.set_cons_zero, List.set_cons_succ])
                | (refine wpSeq_val (v := ?_) (by rfl) (fun W hS => ?_) ?_
                   rotate_left
                   · (have fy0 := E.out W hS.bel; clear hS; go_simp; first | done | with_reducible rfl)
                   try simp only [Act.put, List.setIfInBounds_toArray, List.set_cons_zero, List.set_cons_succ]))
              refine wpSeq_call (v := .agg #[.bool z7.neg, .string z7.num, .string z7.den]) (by rfl) (fun W hS => ?_) (fun W hS => (O7i.out W hS.bel)) ?_
              · (clear hS; go_simp; done)
              try simp only [Act.put, List.setIfInBounds_toArray, List.set_cons_zero, List.set_cons_succ]
              repeat (first
                | (refine wpSeq_off (by rfl) ?_; try simp only [Act.put, List.setIfInBounds_toArray, List.set_cons_zero, List.set_cons_succ])
                | (refine wpSeq_val (v := ?_) (by rfl) (fun W hS => ?_) ?_
                   rotate_left
                   · (have fy0 := E.out W hS.bel; clear hS; go_simp; first | done | with_reducible rfl)
                   try simp only [Act.put, List.setIfInBounds_toArray, List.set_cons_zero, List.set_cons_succ]))
              refine wpSeq_nil (fun W hS => ?_)
              have hO8 := HO.out.1.call hS.bel
              have hbk8 := HO.out.2.below hS.bel HO.out.2.lt
              have hne : g16 ≠ gq := fun e => by
                subst e
                obtain ⟨xs, hx⟩ := hO8.2.2 kk HKK.out.2
                exact absurd (own_type hx (by rw [HKV.out]; rfl) hbk8) (by decide)
              have hcell := fun i => hO8.2.2.cell HKK.out.2 (by rw [HKN8.out kk HKK.out.2]; exact HKV.out) i
              rw [HKN8.out kk HKK.out.2] at hcell
              obtain ⟨u0, e0⟩ := (hcell (j * 3)).2 (by omega)
              obtain ⟨u1, e1⟩ := (hcell (j * 3 + 1)).2 (by omega)
              obtain ⟨u2, e2⟩ := (hcell (j * 3 + 2)).2 (by omega)
              have hz := fun i => (hcell i).1
              have HX := Lib.hid (hO8.num HKK.out.2 (by rw [HKV.out]; rfl) hgq1 hgq2 j z7)
              have HX2 := Lib.hid (((hbk8.far (p := ⟨gq, j * 3, none⟩) hne (.bool z7.neg)).far (p := ⟨gq, j * 3 + 1, none⟩) hne (.string z7.num)).far (p := ⟨gq, j * 3 + 2, none⟩) hne (.string z7.den))
              clear hS hO8 hI2 O7i E HO hcell hbk8 hne
              go_upto_region 25 with (fail)
              have hO := HX.out
              have hbk := HX2.out
              clear HX HX2 e0 e1 e2 hz
              generalize World.setCell _ _ _ = W9 at hO hbk ⊢
              have HX := Lib.hid (And.intro hO hbk)
              clear hO hbk
              go_wp2_with fail
              go_roundw
              case rel => exact ⟨j + 1, hjn, by simp, HX.out.1, HX.out.2⟩
              case measure => simp [intOf]; omega
            · obtain rfl : j = n := by omega
              have hj1 : ¬ (j : Int) < (j : Int) := by omega
              have HX := Lib.hid hO
              clear hO hbk
              go_wp2_with fail
              go_roundw
              case rel => exact ⟨k + 1, hin, by simp, HX.out⟩
              case measure => simp [intOf]; omega
        · obtain rfl : k = K8.length := by omega
          have hi1 : ¬ (K8.length : Int) < (K8.length : Int) := by omega
          have hb9 : Below w0.heap.size w0 w9 := HB8.out.trans (hO.1.below HB8.out.size)
          clear hO hin hk
          have hbw9 := HBW0.out.trans (hb9.mono HBW0.out.size)
          have HBW9 := Lib.hid hbw9
          have hb5 := HB50.out.below hb9 HB50.out.lt
          have hb6 := HB60.out.below hb9 HB60.out.lt
          have HB59 := Lib.hid hb5
          have HVW9 := Lib.hid (own_below HVW0.out hb9 (Nat.le_refl _))
          have HW9 := Lib.hid (HWI.out w9 (tabs w HT.out hbw9) (HC0.out.below hb9) (HKP0.out.below hb9).slK (SlQ.up HSQ0.out hb9))
          have s0 := hb6.cell 0 _ rfl
          have s1 := hb6.cell 1 _ rfl
          have s2 := hb6.cell 2 _ rfl
          have s3 := hb6.cell 3 _ rfl
          clear hb9 hbw9 hb5 hb6 HWI HC0 HKP0 HSQ0 HVW0 HB50 HB60
          go_wp2_with fail
          refine HW9.out.mono ?_
          rintro e w10 ⟨vx, rfl, hown, hb⟩
          obtain ⟨Ax, cx, rfl, _⟩ := own_rd hown
          have hsa := SlQ.row (own_below HVW9.out hb (Nat.le_refl _))
          have hsb := SlQ.row hown
          obtain ⟨_, _, _, he8, hl8, _⟩ := id hsb
          cases he8
          have HEQ := Lib.hid (equal_same w10 _ _ _ hsa hsb (by omega))
          have hb5 := HB59.out.below hb HB59.out.lt
          have a11 := hb5.cell 11 _ rfl
          have HBF := Lib.hid (HBW9.out.trans (hb.mono HBW9.out.size))
          have hnN := HNN.out
          clear s0 s1 s2 s3 hown hb hsa hsb hl8 hb5 HW9
          go_wp2_with fail
          refine HEQ.out.mono ?_
          rintro e w11 ⟨rfl, hb⟩
          have HFI := Lib.hid (HBF.out.trans (hb.mono HBF.out.size))
          clear a11 hb
          go_wp2
          go_ret
          exact ⟨rfl, HFI.out⟩
end Go.Proofs.YtnnbnecpcppkdaaDoor.ctlOwn
