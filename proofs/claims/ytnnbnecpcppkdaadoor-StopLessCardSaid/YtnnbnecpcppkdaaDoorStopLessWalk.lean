/- StopLess: the walk. Conditions: those typed. -/
import Derived.Test.YtnnbnecpcppkdaaDoorState
import Derived.Test.YtnnbnecpcppkdaaDoorBrkPlain
import Derived.Test.YtnnbnecpcppkdaaDoorSpan
import Derived.Test.YtnnbnecpcppkdaaDoorArgQ
namespace Go.Proofs.YtnnbnecpcppkdaaDoor.stopLess
open Go.RowKit Go.Gy
set_option linter.unusedVariables false
/-- a tick of braking at an arm that gantmake.Arm makes: what Spans answers -/
theorem spans_gen {w w' : World} {M : Nat} {a : Ar} (hG : GenAr a) {ql vl : List Q3} (hq : ql.length = a.L.length) (hv : vl.length = a.L.length) (hb : ∀ (j : Nat) (x : Lk × List P2) (y : Q3), a.L[j]? = some x → vl[j]? = some y → absQ y.q ≤ x.1.speed.q) {e : Ending} (h : SpansPost w M a ql vl e w') :
    ∃ (v : Value) (S : List P2), e = .returned (.tuple #[v, .int .i64 0]) ∧ Below w.heap.size w w' ∧ S.length = a.L.length ∧ SpansOK M a.L ql vl S ∧ w'.ownsRow w.heap.size 68 6 v S.length (S.flatMap encP) := by
  have hF : FitsE a ql.length vl.length 0 := by rw [hq, hv]; exact FitsE.ok hG.ok
  obtain ⟨v, c, he, hbl, ⟨h1, h2, _⟩ | ⟨_, ⟨j, x, y, h1, h2, n, e', h3, h4, _⟩, _⟩ | ⟨_, h1, S, h2, h3, h4⟩⟩ := h
  · exact absurd (h1.uniq hF) h2
  · exfalso
    have hg := hG.lk x (List.mem_of_getElem? h1)
    obtain ⟨b1, b2, _⟩ := hg.brake
    have hs := hg.speed_le
    have ha := hb j x y h1 h2
    exact h4 (ticks_fine h3 b1 (by grind))
  · subst h1
    exact ⟨v, S, he, hbl, h2, h3, h4⟩
theorem brake_gen {w w' : World} {N : Nat} {a : Ar} (hG : GenAr a) {ql vl : List Q3} {pw : Bool} {hd : Int} (hq : ql.length = a.L.length) (hv : vl.length = a.L.length) {e : Ending} (h : BrakePost w N a ql vl pw hd e w') :
    ∃ (vq vv : Value) (qs vs : List Q3), e = .returned (.tuple #[.agg #[vq, vv, .bool pw, .int .i64 hd], .int .i64 0]) ∧ Below w.heap.size w w' ∧ SlQ w' w'.heap.size vq qs ∧ SlQ w' w'.heap.size vv vs ∧ BrkTo N a.L ql vl qs vs a.L.length := by
  have hF : FitsE a ql.length vl.length 0 := by rw [hq, hv]; exact FitsE.ok hG.ok
  obtain ⟨vq, vv, p, h', c, he, hbl, ⟨h1, h2, _⟩ | ⟨_, h1, h2, h3, qs, vs, h4, h5, h6⟩⟩ := h
  · exact absurd (h1.uniq hF) h2
  · subst h1 h2 h3
    exact ⟨vq, vv, qs, vs, he, hbl, h4, h5, h6⟩
theorem SlP.ownS {w : World} {base n : Nat} {v : Value} {S : List P2} (h : w.ownsRow base 68 6 v n (S.flatMap encP)) (hn : n = S.length) : SlP w w.heap.size v S := by
  obtain ⟨A, c, rfl, h1, _, h2⟩ := own_rd h
  exact ⟨A, n, c, rfl, hn.symm, h1, fun hA => (own_none h hA).2, h2⟩
theorem SlQ.up {w w' : World} {v : Value} {l : List Q3} (h : SlQ w w.heap.size v l) (hb : Below w.heap.size w w') : SlQ w' w'.heap.size v l := (h.below hb).more hb.size
theorem SlP.up {w w' : World} {v : Value} {l : List P2} (h : SlP w w.heap.size v l) (hb : Below w.heap.size w w') : SlP w' w'.heap.size v l := (h.below hb).more hb.size
def LsRel (w : World) (n : Nat) (i : Value) (wr : World) : Prop := ∃ k : Nat, k ≤ n ∧ i = .int .i64 k ∧ In w [] wr
set_option maxRecDepth 100000 in
set_option maxHeartbeats 8000000 in
theorem walk (v0 v1 : Value) (w : World) {b0 b1 : Nat} (f0 : IntsArg w v0 b0) (f1 : IntsArg w v1 b1) (hT : TabW w) :
    Calls Tryd.prog 6 #[v0, v1] w fun e w' => e = .returned (.bool true) ∧ Below w.heap.size w w' := by
  obtain ⟨r0, hl0, _, _, hrb0⟩ := f0
  obtain ⟨r1, hl1, hi1, _, hrb1⟩ := f1
  have HT := Lib.hid hT
  have BR := brakesR w hT
  have HA := Lib.hid (fun W (hW : Below w.heap.size w W) => armMake W v0 r0 ((hl0.below hW).more hW.size) (by unfold reachBytes at hrb0; omega))
  have HL1 := Lib.hid hl1
  have HR1 := Lib.hid hrb1
  have HI1 := Lib.hid hi1
  clear hl0 hl1 hrb0 hrb1 hi1
  have hI := In.start w
  clear hT
  go_enter Tryd.func6, Tryd.ntmps6
  go_wp2_with fail
  refine (BR.out _ hI.bel).mono ?_
  rintro e wn ⟨rfl, hb⟩
  replace hI := hI.call hb
  clear hb
  go_wp2_with fail
  refine (HA.out _ hI.bel).mono ?_
  rintro e w1 ⟨a, he, hG, hAt, hb⟩
  have HG := Lib.hid hG
  have hb1 := hI.bel.trans (hb.mono hI.bel.size)
  have HB1 := Lib.hid hb1
  have HAt := Lib.hid hAt
  have HST := Lib.hid (fun W (hW : Below w1.heap.size w1 W) => state_any W (tabs w HT.out (hb1.trans (hW.mono hb1.size))) a hG (hAt.up hW) v1 r1 ((HL1.out.below (hb1.trans (hW.mono hb1.size))).more (hb1.trans (hW.mono hb1.size)).size) (by have := HR1.out; unfold reachBytes at this; omega) HI1.out)
  have HSP := Lib.hid (fun W (hW : Below w1.heap.size w1 W) (N : Nat) (hN : 4 ≤ N ∧ N ≤ 67108864) vq vv ql vl hq hv lq lv => spans_any W (tabs w HT.out (hb1.trans (hW.mono hb1.size))) a (hAt.up hW) (hG.le.more hN.1) vq vv ql vl hq hv lq lv (by omega))
  have HBK := Lib.hid (fun W (hW : Below w1.heap.size w1 W) (N : Nat) (hN : 4 ≤ N ∧ N ≤ 67108864) vq vv ql vl pw hd hq hv lq lv => brake_any W (tabs w HT.out (hb1.trans (hW.mono hb1.size))) a (hAt.up hW) (hG.le.more hN.1) vq vv ql vl pw hd hq hv lq lv (by omega))
  obtain ⟨ar, har⟩ : ∃ ar, ar = a := ⟨_, rfl⟩
  rw [← har] at HST HSP HBK HG
  obtain ⟨nm, ⟨px, py⟩, hf, t, va, L⟩ := a
  obtain ⟨⟨A, N, C, hva, hNL, hNC, _, hrd⟩, hshp⟩ := hAt
  obtain rfl : va = .slice A N C := hva
  obtain rfl : L.length = N := (Ar.ks_len ⟨nm, ⟨px, py⟩, hf, t, .slice A N C, L⟩).symm.trans hNL
  have hval : ar.val = .agg #[.string nm, .bool px.neg, .string px.num, .string px.den, .bool py.neg, .string py.num, .string py.den, .bool hf, .bool t.neg, .string t.num, .string t.den, .slice A L.length C] := by rw [har]; rfl
  have HLL := Lib.hid (show ar.L = L by rw [har])
  have he : e = .returned (.agg #[.string nm, .bool px.neg, .string px.num, .string px.den, .bool py.neg, .string py.num, .string py.den, .bool hf, .bool t.neg, .string t.num, .string t.den, .slice A L.length C]) := he
  subst he
  rw [hval] at HST HSP HBK
  clear hI hb HA hb1 hG hrd hshp hNL BR HL1 HR1 HI1 har hval
  have hI := (In.start w1).alloc 37 #[.string nm, .bool px.neg, .string px.num, .string px.den, .bool py.neg, .string py.num, .string py.den, .bool hf, .bool t.neg, .string t.num, .string t.den, .slice A L.length C]
  obtain ⟨g5, hg5⟩ : ∃ g, g = w1.heap.size := ⟨_, rfl⟩
  go_upto_region 4 with (fail)
  rw [← hg5] at hI ⊢
  generalize World.alloc _ _ = W1 at hI ⊢
  clear hg5
  have fx := hI.facts
  simp only [factsOf, cellsOf, Nat.zero_add, Nat.reduceAdd] at fx
  go_wp2_with fail
  refine (HST.out _ hI.bel).mono ?_
  rintro e w3 ⟨vq, vv, qs, vs, rfl, hql, hqs, hvl, hvs, hsq, hsv, hb⟩
  replace hI := hI.call hb
  obtain ⟨Aq, nq, Cq, rfl, hnq, _⟩ := id hsq
  obtain ⟨Av, nv, Cv, rfl, hnv, _⟩ := id hsv
  subst hnq hnv
  clear fx hb HST
  replace hI := hI.alloc 61 #[.slice Aq qs.length Cq, .slice Av vs.length Cv, .bool true, .int .i64 (-1)]
  have hba : Below w3.heap.size w3 (w3.alloc (.cells #[.slice Aq qs.length Cq, .slice Av vs.length Cv, .bool true, .int .i64 (-1)] 61)) := (Below.refl _ _).alloc (Nat.le_refl _) _
  have HSQ := Lib.hid (SlQ.up hsq hba)
  have HSV := Lib.hid (SlQ.up hsv hba)
  have HQL := Lib.hid hql
  have HQS := Lib.hid hqs
  have HVL := Lib.hid hvl
  have HVS := Lib.hid hvs
  clear hsq hsv hba hql hqs hvl hvs
  obtain ⟨g6, hg6⟩ : ∃ g, g = w3.heap.size := ⟨_, rfl⟩
  go_upto_region 5 with (fail)
  rw [← hg6] at hI ⊢
  generalize World.alloc _ _ = W3 at hI HSQ HSV ⊢
  clear hg6
  have HLQ := Lib.hid (show ∀ x ∈ qs, x.le 20 from fun x hx => by
    obtain ⟨j, hj, rfl⟩ := List.getElem_of_mem hx
    have h1 : j < ar.L.length := by rw [← HQL.out]; exact hj
    exact (HQS.out.2 j _ _ (List.getElem?_eq_getElem hj) (List.getElem?_eq_getElem h1)).2.1.more (by decide))
  have HLV := Lib.hid (show ∀ x ∈ vs, x.le 20 from fun x hx => by
    obtain ⟨j, hj, rfl⟩ := List.getElem_of_mem hx
    have h1 : j < ar.L.length := by rw [← HVL.out]; exact hj
    exact (HVS.out.2 j _ _ (List.getElem?_eq_getElem hj) (List.getElem?_eq_getElem h1)).2.1)
  have HAB := Lib.hid (show ∀ (j : Nat) (x : Lk × List P2) (y : Q3), ar.L[j]? = some x → vs[j]? = some y → absQ y.q ≤ x.1.speed.q from fun j x y h1 h2 => (HVS.out.2 j y x h2 h1).2.2)
  have fx := hI.facts
  simp only [factsOf, cellsOf, Nat.zero_add, Nat.reduceAdd] at fx
  go_wp2_with fail
  refine (HSP.out W3 hI.bel 20 (by decide) _ _ qs vs HSQ.out HSV.out HLQ.out HLV.out).mono ?_
  rintro e w4 hp
  obtain ⟨vx, S1, rfl, hb, hS1l, hS1, hown1⟩ := spans_gen HG.out HQL.out HVL.out HAB.out hp
  obtain ⟨gx, cx, rfl, _, _, _⟩ := own_shape hown1 (by rw [hS1l]; exact HG.out.len.1)
  have HX1 := Lib.hid (SlP.ownS hown1 rfl)
  replace hI := hI.call hb
  replace HSQ := Lib.hid (SlQ.up HSQ.out hb)
  replace HSV := Lib.hid (SlQ.up HSV.out hb)
  have HS1L := Lib.hid hS1l
  have HS1 := Lib.hid hS1
  clear hb hp hown1 hS1l hS1 fx
  have fx := hI.facts
  simp only [factsOf, cellsOf, Nat.zero_add, Nat.reduceAdd] at fx
  go_wp2_with fail
  refine (HBK.out w4 hI.bel 20 (by decide) _ _ qs vs true (-1) HSQ.out HSV.out HLQ.out HLV.out).mono ?_
  rintro e w5 hp
  obtain ⟨vq2, vv2, qs2, vs2, rfl, hb, hsq2, hsv2, hto⟩ := brake_gen HG.out HQL.out HVL.out hp
  obtain ⟨Aq2, nq2, Cq2, rfl, hnq2, _⟩ := id hsq2
  obtain ⟨Av2, nv2, Cv2, rfl, hnv2, _⟩ := id hsv2
  subst hnq2 hnv2
  replace hI := (hI.call hb).alloc 61 #[.slice Aq2 qs2.length Cq2, .slice Av2 vs2.length Cv2, .bool true, .int .i64 (-1)]
  have hba : Below w5.heap.size w5 (w5.alloc (.cells #[.slice Aq2 qs2.length Cq2, .slice Av2 vs2.length Cv2, .bool true, .int .i64 (-1)] 61)) := (Below.refl _ _).alloc (Nat.le_refl _) _
  have HSQ2 := Lib.hid (SlQ.up hsq2 hba)
  have HSV2 := Lib.hid (SlQ.up hsv2 hba)
  replace HX1 := Lib.hid (SlP.up (SlP.up HX1.out hb) hba)
  have HTO := Lib.hid hto
  clear hb hp hsq2 hsv2 hba hto fx
  obtain ⟨g9, hg9⟩ : ∃ g, g = w5.heap.size := ⟨_, rfl⟩
  go_upto_region 7 with (fail)
  rw [← hg9] at hI ⊢
  generalize World.alloc _ _ = W5 at hI HSQ2 HSV2 HX1 ⊢
  clear hg9
  have HQ2L := Lib.hid (show qs2.length = ar.L.length by rw [HTO.out.1]; exact HQL.out)
  have HV2L := Lib.hid (show vs2.length = ar.L.length by rw [HTO.out.2.1]; exact HVL.out)
  have HBA := Lib.hid (show ∀ (j : Nat) (x : Lk × List P2) (q' v' : Q3), ar.L[j]? = some x → qs2[j]? = some q' → vs2[j]? = some v' → ∃ q v, qs[j]? = some q ∧ vs[j]? = some v ∧ BrkAt 20 x.1 q v q' v' from fun j x q' v' h1 h2 h3 => by
    have hj := (List.getElem?_eq_some_iff.1 h1).1
    have h4 : qs[j]? = some (qs[j]'(by rw [HQL.out]; exact hj)) := List.getElem?_eq_getElem _
    have h5 : vs[j]? = some (vs[j]'(by rw [HVL.out]; exact hj)) := List.getElem?_eq_getElem _
    exact ⟨_, _, h4, h5, HTO.out.2.2.1 j x _ _ q' v' hj h1 h4 h5 h2 h3⟩)
  have HLQ2 := Lib.hid (show ∀ x ∈ qs2, x.le 100 from fun x hx => by
    obtain ⟨j, hj, rfl⟩ := List.getElem_of_mem hx
    have h1 : j < ar.L.length := by rw [← HQ2L.out]; exact hj
    obtain ⟨q, v, _, _, hB⟩ := HBA.out j _ _ _ (List.getElem?_eq_getElem h1) (List.getElem?_eq_getElem hj) (List.getElem?_eq_getElem (by rw [HV2L.out]; exact h1))
    exact hB.2.2.2.2.2.more (by decide))
  have HLV2 := Lib.hid (show ∀ x ∈ vs2, x.le 100 from fun x hx => by
    obtain ⟨j, hj, rfl⟩ := List.getElem_of_mem hx
    have h1 : j < ar.L.length := by rw [← HV2L.out]; exact hj
    obtain ⟨q, v, _, _, hB⟩ := HBA.out j _ _ _ (List.getElem?_eq_getElem h1) (List.getElem?_eq_getElem (by rw [HQ2L.out]; exact h1)) (List.getElem?_eq_getElem hj)
    exact hB.2.2.2.2.1.more (by decide))
  have HAB2 := Lib.hid (show ∀ (j : Nat) (x : Lk × List P2) (y : Q3), ar.L[j]? = some x → vs2[j]? = some y → absQ y.q ≤ x.1.speed.q from fun j x y h1 h2 => by
    have hj := (List.getElem?_eq_some_iff.1 h1).1
    obtain ⟨q, v, h3, h4, hB⟩ := HBA.out j x _ y h1 (List.getElem?_eq_getElem (by rw [HQ2L.out]; exact hj)) h2
    have h5 := HAB.out j x v h1 h4
    have hg := HG.out.lk x (List.mem_of_getElem? h1)
    have h6 := slow_abs (b := x.1.brake.q) (v := v.q) hg.brake.1
    rw [← hB.1] at h6
    exact Rat.le_trans h6 h5)
  have fx := hI.facts
  simp only [factsOf, cellsOf, Nat.zero_add, Nat.reduceAdd] at fx
  go_wp2_with fail
  refine (HSP.out W5 hI.bel 100 (by decide) _ _ qs2 vs2 HSQ2.out HSV2.out HLQ2.out HLV2.out).mono ?_
  rintro e w6 hp
  obtain ⟨vy, S2, rfl, hb, hS2l, hS2, hown2⟩ := spans_gen HG.out HQ2L.out HV2L.out HAB2.out hp
  obtain ⟨gy, cy, rfl, _, _, _⟩ := own_shape hown2 (by rw [hS2l]; exact HG.out.len.1)
  have HX2 := Lib.hid (SlP.ownS hown2 rfl)
  replace hI := hI.call hb
  replace HX1 := Lib.hid (SlP.up HX1.out hb)
  have HS2L := Lib.hid hS2l
  have HS2 := Lib.hid hS2
  clear hb hp hown2 hS2l hS2 fx
  have hl1 : S1.length = L.length := by rw [HS1L.out, HLL.out]
  have hl2 : S2.length = L.length := by rw [HS2L.out, HLL.out]
  have hq1 : ((S1.length : Int) != (L.length : Int)) = false := by simp [hl1]
  have hq2 : ((S2.length : Int) != (S1.length : Int)) = false := by simp [hl1, hl2]
  have hL3 : L.length ≤ 3 := by rw [← HLL.out]; exact HG.out.len.2
  have fx := hI.facts
  simp only [factsOf, cellsOf, Nat.zero_add, Nat.reduceAdd] at fx
  have HBW := Lib.hid (HB1.out.trans (hI.bel.mono HB1.out.size))
  clear hl1 hl2
  have HTC := Lib.hid (tabs w HT.out HBW.out)
  have hst := Lib.hid (show LsRel w6 S1.length (.int .i64 0) w6 from ⟨0, Nat.zero_le _, rfl, In.start w6⟩)
  clear hI
  go_wp2_with fail
  clear fx
  go_loopw [72] (fun i wr => LsRel w6 S1.length i wr) (fun i _ => S1.length - (intOf i).toNat)
  case atStart => exact hst.out
  case round =>
    as_aux_lemma =>
    clear hst
    obtain ⟨k, hk, rfl, hI⟩ := hrel
    by_cases hin : k < S1.length
    · have hi1 : (k : Int) < (S1.length : Int) := by omega
      have hi2 : 0 ≤ (k : Int) ∧ (k : Int) < (S1.length : Int) := by omega
      have hkL : k < ar.L.length := by rw [← HS1L.out]; exact hin
      have hk2 : k < S2.length := by rw [HS2L.out]; exact hkL
      have hi3 : 0 ≤ (k : Int) ∧ (k : Int) < (S2.length : Int) := by omega
      obtain ⟨s1, h1⟩ : ∃ s, S1[k]? = some s := ⟨_, List.getElem?_eq_getElem hin⟩
      obtain ⟨s2, h2⟩ : ∃ s, S2[k]? = some s := ⟨_, List.getElem?_eq_getElem hk2⟩
      obtain ⟨x, hx⟩ : ∃ s, ar.L[k]? = some s := ⟨_, List.getElem?_eq_getElem hkL⟩
      obtain ⟨q', hq'⟩ : ∃ s, qs2[k]? = some s := ⟨_, List.getElem?_eq_getElem (by rw [HQ2L.out]; exact hkL)⟩
      obtain ⟨v', hv'⟩ : ∃ s, vs2[k]? = some s := ⟨_, List.getElem?_eq_getElem (by rw [HV2L.out]; exact hkL)⟩
      obtain ⟨q, v, hq, hv, hB⟩ := HBA.out k x q' v' hx hq' hv'
      have a1 := HS1.out.2 k s1 x q v h1 hx hq hv
      have a2 := HS2.out.2 k s2 x q' v' h2 hx hq' hv'
      obtain ⟨⟨m1, m2⟩, m3, m4⟩ := span_less hB a1 a2
      obtain ⟨_, _, _, _, ⟨c1, c2⟩, l1, l2⟩ := a1
      obtain ⟨_, _, _, _, _, l3, l4⟩ := a2
      have H1 := hasT w6 HTC.out s1.x s1.y s2.x c1 c2 (N := 1000) (l1.more (by decide)) (l2.more (by decide)) (l3.more (by decide)) m1 m2
      have H2 := hasT w6 HTC.out s1.x s1.y s2.y c1 c2 (N := 1000) (l1.more (by decide)) (l2.more (by decide)) (l4.more (by decide)) m3 m4
      obtain ⟨_, _, _, he1, _, _, _, hr1⟩ := HX1.out
      cases he1
      obtain ⟨_, _, he1, hgx, e0, e1, e2, e3, e4, e5⟩ := Rd.pt hr1 h1
      cases he1
      obtain ⟨_, _, _, he2, _, _, _, hr2⟩ := HX2.out
      cases he2
      obtain ⟨_, _, he2, hgy, d0, d1, d2, d3, d4, d5⟩ := Rd.pt hr2 h2
      cases he2
      rw [Nat.zero_add] at e0 e1 e2 e3 e4 e5 d0 d1 d2 d3 d4 d5
      have E := Lib.hid (fun W (hW : Below w6.heap.size w6 W) => (⟨(hW.cell (p := ⟨gx, k * 6, none⟩) hgx).trans e0, (hW.cell (p := ⟨gx, k * 6 + 1, none⟩) hgx).trans e1, (hW.cell (p := ⟨gx, k * 6 + 2, none⟩) hgx).trans e2, (hW.cell (p := ⟨gx, k * 6 + 3, none⟩) hgx).trans e3, (hW.cell (p := ⟨gx, k * 6 + 4, none⟩) hgx).trans e4, (hW.cell (p := ⟨gx, k * 6 + 5, none⟩) hgx).trans e5, (hW.cell (p := ⟨gx, k * 6 + 3 + 1, none⟩) hgx).trans e4, (hW.cell (p := ⟨gx, k * 6 + 3 + 2, none⟩) hgx).trans e5, (hW.cell (p := ⟨gy, k * 6, none⟩) hgy).trans d0, (hW.cell (p := ⟨gy, k * 6 + 1, none⟩) hgy).trans d1, (hW.cell (p := ⟨gy, k * 6 + 2, none⟩) hgy).trans d2, (hW.cell (p := ⟨gy, k * 6 + 3, none⟩) hgy).trans d3, (hW.cell (p := ⟨gy, k * 6 + 4, none⟩) hgy).trans d4, (hW.cell (p := ⟨gy, k * 6 + 5, none⟩) hgy).trans d5, (hW.cell (p := ⟨gy, k * 6 + 3 + 1, none⟩) hgy).trans d4, (hW.cell (p := ⟨gy, k * 6 + 3 + 2, none⟩) hgy).trans d5⟩ : And _ (And _ (And _ (And _ (And _ (And _ (And _ (And _ (And _ (And _ (And _ (And _ (And _ (And _ (And _ (_)))))))))))))))))
      have hwk : IntKind.i64.wrap ((k : Int) + 1) = (k : Int) + 1 := by
        have := HG.out.len.2
        rw [IntKind.wrap_i64]; omega
      have HN := Lib.hid (show ∀ W, In w6 [] W → LsRel w6 S1.length (.int .i64 ((k : Int) + 1)) W from fun W hW => ⟨k + 1, hin, by simp, hW⟩)
      clear h1 h2 hx hq' hv' hq hv hB m1 m2 m3 m4 c1 c2 l1 l2 l3 l4 hr1 hr2 e0 e1 e2 e3 e4 e5 d0 d1 d2 d3 d4 d5 hgx hgy
      go_upto_region 13 with (fail)
      refine wp_region_in hI (by kernel_rfl) (by kernel_rfl) ?_
      repeat (first
        | (refine wpSeq_off (by rfl) ?_; try simp only [Act.put, List.setIfInBounds_toArray, List.set_cons_zero, List.set_cons_succ])
        | (refine wpSeq_val (v := ?_) (by rfl) (fun W hS => ?_) ?_
           rotate_left
           · (have fy0 := E.out W hS.bel; clear hS; go_simp; first | done | with_reducible rfl)
           try simp only [Act.put, List.setIfInBounds_toArray, List.set_cons_zero, List.set_cons_succ]))
      refine wpSeq_call (v := .bool true) (by rfl) (fun W hS => ?_) (fun W hS => (H1.out W hS.bel)) ?_
      · (clear hS; go_simp; done)
      try simp only [Act.put, List.setIfInBounds_toArray, List.set_cons_zero, List.set_cons_succ]
      repeat (first
        | (refine wpSeq_off (by rfl) ?_; try simp only [Act.put, List.setIfInBounds_toArray, List.set_cons_zero, List.set_cons_succ])
        | (refine wpSeq_val (v := ?_) (by rfl) (fun W hS => ?_) ?_
           rotate_left
           · (have fy0 := E.out W hS.bel; clear hS; go_simp; first | done | with_reducible rfl)
           try simp only [Act.put, List.setIfInBounds_toArray, List.set_cons_zero, List.set_cons_succ]))
      refine wpSeq_call (v := .bool true) (by rfl) (fun W hS => ?_) (fun W hS => (H2.out W hS.bel)) ?_
      · (clear hS; go_simp; done)
      try simp only [Act.put, List.setIfInBounds_toArray, List.set_cons_zero, List.set_cons_succ]
      repeat (first
        | (refine wpSeq_off (by rfl) ?_; try simp only [Act.put, List.setIfInBounds_toArray, List.set_cons_zero, List.set_cons_succ])
        | (refine wpSeq_val (v := ?_) (by rfl) (fun W hS => ?_) ?_
           rotate_left
           · (have fy0 := E.out W hS.bel; clear hS; go_simp; first | done | with_reducible rfl)
           try simp only [Act.put, List.setIfInBounds_toArray, List.set_cons_zero, List.set_cons_succ]))
      refine wpSeq_nil (fun W hS => ?_)
      have HX := Lib.hid (HN.out _ hS)
      clear hS hI E H1 H2
      go_wp2_with fail
      go_roundw
      case rel => exact HX.out
      case measure => simp [intOf]; omega
    · obtain rfl : k = S1.length := by omega
      have hi1 : ¬ (S1.length : Int) < (S1.length : Int) := by omega
      have hfin := HBW.out.trans (hI.bel.mono HBW.out.size)
      clear hI
      go_wp2
      go_ret
      exact ⟨rfl, hfin⟩
end Go.Proofs.YtnnbnecpcppkdaaDoor.stopLess
