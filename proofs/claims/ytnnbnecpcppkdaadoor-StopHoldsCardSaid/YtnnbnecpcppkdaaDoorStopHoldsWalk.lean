/- StopHolds: the walk. Conditions: those typed. -/
import Derived.Test.YtnnbnecpcppkdaaDoorState
import Derived.Test.YtnnbnecpcppkdaaDoorHoldPlain
import Derived.Test.YtnnbnecpcppkdaaDoorNoneF
import Derived.Test.YtnnbnecpcppkdaaDoorSpan
import Derived.Test.YtnnbnecpcppkdaaDoorArgQ
namespace Go.Proofs.YtnnbnecpcppkdaaDoor.stopHolds
open Go.RowKit Go.Gy
set_option linter.unusedVariables false
/-- a tick of braking at an arm that gantmake.Arm makes: what Spans answers -/
theorem spans_gen {w w' : World} {M : Nat} {a : Ar} (hG : GenAr a) {ql vl : List Q3} (hq : ql.length = a.L.length) (hv : vl.length = a.L.length) (hb : ∀ (j : Nat) (x : Lk × List P2) (y : Q3), a.L[j]? = some x → vl[j]? = some y → absQ y.q ≤ x.1.speed.q) {e : Ending} (h : SpansPost w M a ql vl e w') :
    ∃ (v : Value) (S : List P2), e = .returned (.tuple #[v, .int .i64 0]) ∧ Below w.heap.size w w' ∧ S.length = a.L.length ∧ SpansOK M a.L ql vl S ∧ w'.ownsRow w.heap.size 68 6 v S.length (S.flatMap encP) := by
  have hF : FitsE a ql.length vl.length 0 := by rw [hq, hv]; exact FitsE.ok hG.ok
  obtain ⟨v, c, he, hbl, ⟨h1, h2, _⟩ | ⟨_, ⟨j, x, y, h1, h2, n, e', h3, h4, _⟩, _⟩ | ⟨_, h1, S, h2, h3, h4⟩⟩ := h
  · exact absurd (h1.uniq hF) h2
  · exfalso
    have hg := hG.lk x (List.mem_of_getElem? h1)
    obtain ⟨b1, b2, _⟩ := hg.brake
    have hs := hg.speed_le
    have ha := hb j x y h1 h2
    exact h4 (ticks_fine h3 b1 (by grind))
  · subst h1
    exact ⟨v, S, he, hbl, h2, h3, h4⟩
theorem brake_gen {w w' : World} {N : Nat} {a : Ar} (hG : GenAr a) {ql vl : List Q3} {pw : Bool} {hd : Int} (hq : ql.length = a.L.length) (hv : vl.length = a.L.length) {e : Ending} (h : BrakePost w N a ql vl pw hd e w') :
    ∃ (vq vv : Value) (qs vs : List Q3), e = .returned (.tuple #[.agg #[vq, vv, .bool pw, .int .i64 hd], .int .i64 0]) ∧ Below w.heap.size w w' ∧ SlQ w' w'.heap.size vq qs ∧ SlQ w' w'.heap.size vv vs ∧ BrkTo N a.L ql vl qs vs a.L.length := by
  have hF : FitsE a ql.length vl.length 0 := by rw [hq, hv]; exact FitsE.ok hG.ok
  obtain ⟨vq, vv, p, h', c, he, hbl, ⟨h1, h2, _⟩ | ⟨_, h1, h2, h3, qs, vs, h4, h5, h6⟩⟩ := h
  · exact absurd (h1.uniq hF) h2
  · subst h1 h2 h3
    exact ⟨vq, vv, qs, vs, he, hbl, h4, h5, h6⟩
theorem SlP.ownS {w : World} {base n : Nat} {v : Value} {S : List P2} (h : w.ownsRow base 68 6 v n (S.flatMap encP)) (hn : n = S.length) : SlP w w.heap.size v S := by
  obtain ⟨A, c, rfl, h1, _, h2⟩ := own_rd h
  exact ⟨A, n, c, rfl, hn.symm, h1, fun hA => (own_none h hA).2, h2⟩
theorem SlQ.up {w w' : World} {v : Value} {l : List Q3} (h : SlQ w w.heap.size v l) (hb : Below w.heap.size w w') : SlQ w' w'.heap.size v l := (h.below hb).more hb.size
theorem SlP.up {w w' : World} {v : Value} {l : List P2} (h : SlP w w.heap.size v l) (hb : Below w.heap.size w w') : SlP w' w'.heap.size v l := (h.below hb).more hb.size
theorem enters_own {f : FuncId} {fn : Func} {c : Code} (hf : Tryd.prog.funcs[f]? = some fn) (hname : (fn.name == "runtime.NumGoroutine") = false) (hb : fn.body = some c) (args : Array Value) (w : World) : (callFunc f args).run Tryd.prog w = .ok (.enter f args) w := by
  have h1 : fn.name ≠ "runtime.NumGoroutine" := by simpa using hname
  simp [callFunc, hf, h1, hb, mark]
def HoRel (w1 : World) (g6 g5 : Nat) (arm : Array Value) (gx cx : Nat) (S1 : List P2) (L : List (Lk × List P2)) (qs0 vs0 : List Q3) (i : Value) (wr : World) : Prop :=
  ∃ (t : Nat) (qs vs : List Q3) (Aq : Option Addr) (Cq : Nat) (Av : Option Addr) (Cv : Nat), i = .int .i64 t ∧ t ≤ 60 ∧ In w1 [(g6, 61, #[.slice Aq qs.length Cq, .slice Av vs.length Cv, .bool true, .int .i64 (-1)]), (g5, 37, arm)] wr ∧
    SlQ wr wr.heap.size (.slice Aq qs.length Cq) qs ∧ SlQ wr wr.heap.size (.slice Av vs.length Cv) vs ∧ SlP wr wr.heap.size (.slice (some ⟨gx, 0, none⟩) S1.length cx) S1 ∧ qs.length = L.length ∧ vs.length = L.length ∧
    ∀ (j : Nat) (x : Lk × List P2) (q0 v0 q v : Q3), L[j]? = some x → qs0[j]? = some q0 → vs0[j]? = some v0 → qs[j]? = some q → vs[j]? = some v → HoldAt x.1 q0 v0 t q v
theorem SlQ.far {w w' : World} {g : Nat} {v : Value} {l : List Q3} {T : TypeId} {a0 a1 : Option Addr} {n0 c0 n1 c1 : Nat} {p : Bool} {k : IntKind} {z : Int} (h : SlQ w w.heap.size v l) (hl : 0 < l.length) (hk : Blk w g T #[.slice a0 n0 c0, .slice a1 n1 c1, .bool p, .int k z]) (hg : w.grownBy w' (some g)) : SlQ w' w'.heap.size v l := by
  obtain ⟨A, n, c, h1, h2, h3, h4, h5⟩ := h
  obtain ⟨x, l', rfl⟩ : ∃ x l', l = x :: l' := by
    cases l with
    | nil => exact absurd hl (Nat.lt_irrefl 0)
    | cons x l' => exact ⟨x, l', rfl⟩
  have h6 := rd_far h5 (Nat.le_refl _) rfl rfl hk hg
  obtain ⟨_, _, _, g4, _⟩ := hg
  exact ⟨A, n, c, h1, h2, h3, h4, h6.more g4⟩
theorem SlP.far {w w' : World} {g : Nat} {v : Value} {l : List P2} {T : TypeId} {a0 a1 : Option Addr} {n0 c0 n1 c1 : Nat} {p : Bool} {k : IntKind} {z : Int} (h : SlP w w.heap.size v l) (hl : 0 < l.length) (hk : Blk w g T #[.slice a0 n0 c0, .slice a1 n1 c1, .bool p, .int k z]) (hg : w.grownBy w' (some g)) : SlP w' w'.heap.size v l := by
  obtain ⟨A, n, c, h1, h2, h3, h4, h5⟩ := h
  obtain ⟨x, l', rfl⟩ : ∃ x l', l = x :: l' := by
    cases l with
    | nil => exact absurd hl (Nat.lt_irrefl 0)
    | cons x l' => exact ⟨x, l', rfl⟩
  have h6 := rd_far h5 (Nat.le_refl _) rfl rfl hk hg
  obtain ⟨_, _, _, g4, _⟩ := hg
  exact ⟨A, n, c, h1, h2, h3, h4, h6.more g4⟩
set_option maxRecDepth 100000 in
theorem zeroR (w : World) (hT : TabW w) (x : Q3) {N : Nat} (hx : x.le N) (h0 : x.q = 0) (hN : N ≤ 8796093022208) :
    Hid (∀ W, Below w.heap.size w W → Calls Tryd.prog 38 #[.agg #[.bool x.neg, .string x.num, .string x.den]] W fun r w' => r = .returned (.bool false) ∧ Below W.heap.size W w') := by
  obtain ⟨c, _, p1, p2, SG⟩ := signR w hT x hx
  have hc : c = 0 := by
    have h1 : ¬ 0 < c := fun h => by have := p1.mp h; rw [h0] at this; exact absurd this (by decide)
    have h2 : ¬ c < 0 := fun h => by have := p2.mp h; rw [h0] at this; exact absurd this (by decide)
    omega
  subst hc
  refine Lib.hid fun W0 hW0 => ?_
  replace SG := up SG hW0
  have hI := (In.start W0).alloc 25 #[.bool x.neg, .string x.num, .string x.den]
  clear p1 p2 hT hW0
  go_enter Tryd.func38, Tryd.ntmps38
  go_upto_region 1 with (fail)
  generalize World.alloc _ _ = W1 at hI ⊢
  have fx := hI.facts
  simp only [factsOf, cellsOf, Nat.zero_add, Nat.reduceAdd] at fx
  go_wp2_with fail
  refine (SG.out _ hI.bel).mono ?_
  rintro e wn ⟨rfl, hb⟩
  replace hI := hI.call hb
  clear hb
  go_wp2
  go_ret
  exact ⟨rfl, hI.bel⟩
def LsRel (w : World) (n : Nat) (i : Value) (wr : World) : Prop := ∃ k : Nat, k ≤ n ∧ i = .int .i64 k ∧ In w [] wr
set_option maxRecDepth 100000 in
set_option maxHeartbeats 8000000 in
theorem walk (v0 v1 : Value) (w : World) {b0 b1 : Nat} (f0 : IntsArg w v0 b0) (f1 : IntsArg w v1 b1) (hT : TabW w) :
    Calls Tryd.prog 5 #[v0, v1] w fun e w' => e = .returned (.bool true) ∧ Below w.heap.size w w' := by
  obtain ⟨r0, hl0, _, _, hrb0⟩ := f0
  obtain ⟨r1, hl1, hi1, _, hrb1⟩ := f1
  have HT := Lib.hid hT
  have BR := brakesR w hT
  have HA := Lib.hid (fun W (hW : Below w.heap.size w W) => armMake W v0 r0 ((hl0.below hW).more hW.size) (by unfold reachBytes at hrb0; omega))
  have HL1 := Lib.hid hl1
  have HR1 := Lib.hid hrb1
  have HI1 := Lib.hid hi1
  clear hl0 hl1 hrb0 hrb1 hi1
  have hI := In.start w
  clear hT
  go_enter Tryd.func5, Tryd.ntmps5
  go_wp2_with fail
  refine (BR.out _ hI.bel).mono ?_
  rintro e wn ⟨rfl, hb⟩
  replace hI := hI.call hb
  clear hb
  go_wp2_with fail
  refine (HA.out _ hI.bel).mono ?_
  rintro e w1 ⟨a, he, hG, hAt, hb⟩
  have HG := Lib.hid hG
  have hb1 := hI.bel.trans (hb.mono hI.bel.size)
  have HB1 := Lib.hid hb1
  have HAt := Lib.hid hAt
  have HST := Lib.hid (fun W (hW : Below w1.heap.size w1 W) => state_any W (tabs w HT.out (hb1.trans (hW.mono hb1.size))) a hG (hAt.up hW) v1 r1 ((HL1.out.below (hb1.trans (hW.mono hb1.size))).more (hb1.trans (hW.mono hb1.size)).size) (by have := HR1.out; unfold reachBytes at this; omega) HI1.out)
  have HSP := Lib.hid (fun W (hW : Below w1.heap.size w1 W) (N : Nat) (hN : 4 ≤ N ∧ N ≤ 67108864) vq vv ql vl hq hv lq lv => spans_any W (tabs w HT.out (hb1.trans (hW.mono hb1.size))) a (hAt.up hW) (hG.le.more hN.1) vq vv ql vl hq hv lq lv (by omega))
  have HBK := Lib.hid (fun W (hW : Below w1.heap.size w1 W) (N : Nat) (hN : 4 ≤ N ∧ N ≤ 67108864) vq vv ql vl pw hd hq hv lq lv => brake_any W (tabs w HT.out (hb1.trans (hW.mono hb1.size))) a (hAt.up hW) (hG.le.more hN.1) vq vv ql vl pw hd hq hv lq lv (by omega))
  obtain ⟨ar, har⟩ : ∃ ar, ar = a := ⟨_, rfl⟩
  rw [← har] at HST HSP HBK HG
  obtain ⟨nm, ⟨px, py⟩, hf, t, va, L⟩ := a
  obtain ⟨⟨A, N, C, hva, hNL, hNC, _, hrd⟩, hshp⟩ := hAt
  obtain rfl : va = .slice A N C := hva
  obtain rfl : L.length = N := (Ar.ks_len ⟨nm, ⟨px, py⟩, hf, t, .slice A N C, L⟩).symm.trans hNL
  have hval : ar.val = .agg #[.string nm, .bool px.neg, .string px.num, .string px.den, .bool py.neg, .string py.num, .string py.den, .bool hf, .bool t.neg, .string t.num, .string t.den, .slice A L.length C] := by rw [har]; rfl
  have HLL := Lib.hid (show ar.L = L by rw [har])
  have he : e = .returned (.agg #[.string nm, .bool px.neg, .string px.num, .string px.den, .bool py.neg, .string py.num, .string py.den, .bool hf, .bool t.neg, .string t.num, .string t.den, .slice A L.length C]) := he
  subst he
  rw [hval] at HST HSP HBK
  clear hI hb HA hb1 hG hrd hshp hNL BR HL1 HR1 HI1 har hval
  have hI := (In.start w1).alloc 37 #[.string nm, .bool px.neg, .string px.num, .string px.den, .bool py.neg, .string py.num, .string py.den, .bool hf, .bool t.neg, .string t.num, .string t.den, .slice A L.length C]
  obtain ⟨g5, hg5⟩ : ∃ g, g = w1.heap.size := ⟨_, rfl⟩
  go_upto_region 4 with (fail)
  rw [← hg5] at hI ⊢
  generalize World.alloc _ _ = W1 at hI ⊢
  clear hg5
  have fx := hI.facts
  simp only [factsOf, cellsOf, Nat.zero_add, Nat.reduceAdd] at fx
  go_wp2_with fail
  refine (HST.out _ hI.bel).mono ?_
  rintro e w3 ⟨vq, vv, qs, vs, rfl, hql, hqs, hvl, hvs, hsq, hsv, hb⟩
  replace hI := hI.call hb
  obtain ⟨Aq, nq, Cq, rfl, hnq, _⟩ := id hsq
  obtain ⟨Av, nv, Cv, rfl, hnv, _⟩ := id hsv
  subst hnq hnv
  clear fx hb HST
  replace hI := hI.alloc 61 #[.slice Aq qs.length Cq, .slice Av vs.length Cv, .bool true, .int .i64 (-1)]
  have hba : Below w3.heap.size w3 (w3.alloc (.cells #[.slice Aq qs.length Cq, .slice Av vs.length Cv, .bool true, .int .i64 (-1)] 61)) := (Below.refl _ _).alloc (Nat.le_refl _) _
  have HSQ := Lib.hid (SlQ.up hsq hba)
  have HSV := Lib.hid (SlQ.up hsv hba)
  have HQL := Lib.hid hql
  have HQS := Lib.hid hqs
  have HVL := Lib.hid hvl
  have HVS := Lib.hid hvs
  clear hsq hsv hba hql hqs hvl hvs
  obtain ⟨g6, hg6⟩ : ∃ g, g = w3.heap.size := ⟨_, rfl⟩
  go_upto_region 5 with (fail)
  rw [← hg6] at hI ⊢
  generalize World.alloc _ _ = W3 at hI HSQ HSV ⊢
  clear hg6
  have HLQ := Lib.hid (show ∀ x ∈ qs, x.le 20 from fun x hx => by
    obtain ⟨j, hj, rfl⟩ := List.getElem_of_mem hx
    have h1 : j < ar.L.length := by rw [← HQL.out]; exact hj
    exact (HQS.out.2 j _ _ (List.getElem?_eq_getElem hj) (List.getElem?_eq_getElem h1)).2.1.more (by decide))
  have HLV := Lib.hid (show ∀ x ∈ vs, x.le 20 from fun x hx => by
    obtain ⟨j, hj, rfl⟩ := List.getElem_of_mem hx
    have h1 : j < ar.L.length := by rw [← HVL.out]; exact hj
    exact (HVS.out.2 j _ _ (List.getElem?_eq_getElem hj) (List.getElem?_eq_getElem h1)).2.1)
  have HAB := Lib.hid (show ∀ (j : Nat) (x : Lk × List P2) (y : Q3), ar.L[j]? = some x → vs[j]? = some y → absQ y.q ≤ x.1.speed.q from fun j x y h1 h2 => (HVS.out.2 j y x h2 h1).2.2)
  have fx := hI.facts
  simp only [factsOf, cellsOf, Nat.zero_add, Nat.reduceAdd] at fx
  go_wp2_with fail
  refine (HSP.out W3 hI.bel 20 (by decide) _ _ qs vs HSQ.out HSV.out HLQ.out HLV.out).mono ?_
  rintro e w4 hp
  obtain ⟨vx, S1, rfl, hb, hS1l, hS1, hown1⟩ := spans_gen HG.out HQL.out HVL.out HAB.out hp
  obtain ⟨gx, cx, rfl, _, _, _⟩ := own_shape hown1 (by rw [hS1l]; exact HG.out.len.1)
  have HX1 := Lib.hid (SlP.ownS hown1 rfl)
  replace hI := hI.call hb
  replace HSQ := Lib.hid (SlQ.up HSQ.out hb)
  replace HSV := Lib.hid (SlQ.up HSV.out hb)
  have HS1L := Lib.hid hS1l
  have HS1 := Lib.hid hS1
  clear hb hp hown1 hS1l hS1 fx
  have hl1 : S1.length = L.length := by rw [HS1L.out, HLL.out]
  have hq1 : ((S1.length : Int) != (L.length : Int)) = false := by simp [hl1]
  have HSL := Lib.hid hl1
  clear hl1
  have hL3 : L.length ≤ 3 ∧ 1 ≤ L.length := by rw [← HLL.out]; exact ⟨HG.out.len.2, HG.out.len.1⟩
  have hst := Lib.hid (show HoRel w1 g6 g5 #[.string nm, .bool px.neg, .string px.num, .string px.den, .bool py.neg, .string py.num, .string py.den, .bool hf, .bool t.neg, .string t.num, .string t.den, .slice A L.length C] gx cx S1 ar.L qs vs (.int .i64 0) w4 from ⟨0, qs, vs, Aq, Cq, Av, Cv, rfl, by omega, hI, HSQ.out, HSV.out, HX1.out, HQL.out, HVL.out, fun j x q0 v0 q v h1 h2 h3 h4 h5 => by
    rw [h2] at h4
    rw [h3] at h5
    cases h4
    cases h5
    exact ⟨rfl, rfl, (HQS.out.2 j q0 x h2 h1).1, (HVS.out.2 j v0 x h3 h1).1⟩⟩)
  have HL1 := Lib.hid (show ∀ (j : Nat) (x : Lk × List P2), ar.L[j]? = some x → ∃ q0 v0 s, qs[j]? = some q0 ∧ vs[j]? = some v0 ∧ S1[j]? = some s ∧ SpanAt _ x.1 q0 v0 s ∧ q0.le 1 ∧ v0.le 20 ∧ absQ v0.q ≤ x.1.speed.q ∧ GenLk x.1 x.2 from fun j x h => by
    have hj := (List.getElem?_eq_some_iff.1 h).1
    have h4 : qs[j]? = some (qs[j]'(by rw [HQL.out]; exact hj)) := List.getElem?_eq_getElem _
    have h5 : vs[j]? = some (vs[j]'(by rw [HVL.out]; exact hj)) := List.getElem?_eq_getElem _
    have h6 : S1[j]? = some (S1[j]'(by rw [HS1L.out]; exact hj)) := List.getElem?_eq_getElem _
    exact ⟨_, _, _, h4, h5, h6, HS1.out.2 j _ x _ _ h6 h h4 h5, (HQS.out.2 j _ x h4 h).2.1, (HVS.out.2 j _ x h5 h).2.1, (HVS.out.2 j _ x h5 h).2.2, HG.out.lk x (List.mem_of_getElem? h)⟩)
  have fx := hI.facts
  simp only [factsOf, cellsOf, Nat.zero_add, Nat.reduceAdd] at fx
  clear hI HSQ HSV HX1 HLQ HLV HAB HQS HVS
  obtain ⟨qs0, hqs0⟩ : ∃ l, l = qs := ⟨_, rfl⟩
  obtain ⟨vs0, hvs0⟩ : ∃ l, l = vs := ⟨_, rfl⟩
  rw [← hqs0, ← hvs0] at hst HL1
  clear hqs0 hvs0
  go_wp2_with fail
  clear fx
  go_loopw [39] (fun i wr => HoRel w1 g6 g5 #[.string nm, .bool px.neg, .string px.num, .string px.den, .bool py.neg, .string py.num, .string py.den, .bool hf, .bool t.neg, .string t.num, .string t.den, .slice A L.length C] gx cx S1 ar.L qs0 vs0 i wr) (fun i _ => 60 - (intOf i).toNat)
  case atStart => exact hst.out
  case round =>
    clear hst HQL HVL
    obtain ⟨t9, ql, vl, Aq9, Cq9, Av9, Cv9, rfl, ht, hI, hsq, hsv, hsp, hql, hvl, hh⟩ := hrel
    have HH := Lib.hid hh
    have HQL := Lib.hid hql
    have HVL := Lib.hid hvl
    have HLE := Lib.hid (show ∀ (j : Nat) (q v : Q3), ql[j]? = some q → vl[j]? = some v → q.le 4000 ∧ v.le 4000 from fun j q v h1 h2 => by
      have hj := (List.getElem?_eq_some_iff.1 h1).1
      obtain ⟨q0, v0, s, k1, k2, k3, k4, k5, k6, k7, k8⟩ := HL1.out j _ (List.getElem?_eq_getElem (by rw [← HQL.out]; exact hj))
      exact (HH.out j _ q0 v0 q v (List.getElem?_eq_getElem (by rw [← HQL.out]; exact hj)) k1 k2 h1 h2).le k8.brake.1 k8.le.1.2.2.2.2 k5 k6 ht)
    have HqL := Lib.hid (show ql.length = L.length by rw [hql, HLL.out])
    clear hh hql hvl
    obtain ⟨wq, rfl⟩ : ∃ wq, wq = wr := ⟨_, rfl⟩
    have HSQ := Lib.hid hsq
    have HSV := Lib.hid hsv
    have HSP9 := Lib.hid hsp
    have HI := Lib.hid hI
    have HTQ := Lib.hid (tabs w HT.out (HB1.out.trans (hI.bel.mono HB1.out.size)))
    clear hsq hsv hsp
    by_cases ht60 : t9 < 60
    · have hti : (t9 : Int) < 60 := by omega
      have hst2 := Lib.hid (show LsRel wq ql.length (.int .i64 0) wq from ⟨0, Nat.zero_le _, rfl, In.start wq⟩)
      have fx := hI.facts
      simp only [factsOf, cellsOf, Nat.zero_add, Nat.reduceAdd] at fx
      clear hI
      go_wp2_with fail
      clear fx
      go_loopw [44] (fun i wx => LsRel wq ql.length i wx) (fun i _ => ql.length - (intOf i).toNat)
      case atStart => exact hst2.out
      case round =>
        as_aux_lemma =>
        clear hst2
        obtain ⟨k, hk, rfl, hJ⟩ := hrel
        by_cases hin : k < ql.length
        · have hi1 : (k : Int) < (ql.length : Int) := by omega
          have hi2 : 0 ≤ (k : Int) ∧ (k : Int) < (ql.length : Int) := by omega
          have hi3 : 0 ≤ (k : Int) ∧ (k : Int) < (S1.length : Int) := by have h1 := HSL.out; have h2 := HqL.out; omega
          obtain ⟨q, hq⟩ : ∃ q, ql[k]? = some q := ⟨_, List.getElem?_eq_getElem hin⟩
          obtain ⟨x, hx⟩ : ∃ x, ar.L[k]? = some x := ⟨_, List.getElem?_eq_getElem (by rw [← HQL.out]; exact hin)⟩
          obtain ⟨v, hv⟩ : ∃ v, vl[k]? = some v := ⟨_, List.getElem?_eq_getElem (by rw [HVL.out, ← HQL.out]; exact hin)⟩
          obtain ⟨q0, v0, s, k1, k2, k3, k4, k5, k6, k7, k8⟩ := HL1.out k x hx
          obtain ⟨m1, m2⟩ := hold_span (HH.out k x q0 v0 q v hx k1 k2 hq hv) k4
          have lq := (HLE.out k q v hq hv).1
          obtain ⟨_, _, _, _, ⟨c1, c2⟩, l1, l2⟩ := k4
          have H1 := hasT wq HTQ.out s.x s.y q c1 c2 (N := 4000) (l1.more (by decide)) (l2.more (by decide)) lq m1 m2
          obtain ⟨_, _, _, he1, _, _, _, hr1⟩ := HSP9.out
          cases he1
          obtain ⟨_, _, he1, hgx, e0, e1, e2, e3, e4, e5⟩ := Rd.pt hr1 k3
          cases he1
          obtain ⟨_, _, _, he2, _, _, _, hr2⟩ := HSQ.out
          cases he2
          obtain ⟨bq, oq, rfl, hbq, d0, d1, d2⟩ := Rd.quot hr2 hq
          have x0 := (hJ.bel.cell (p := ⟨bq, oq + k * 3, none⟩) hbq).trans d0
          have x1 := (hJ.bel.cell (p := ⟨bq, oq + k * 3 + 1, none⟩) hbq).trans d1
          have x2 := (hJ.bel.cell (p := ⟨bq, oq + k * 3 + 2, none⟩) hbq).trans d2
          have hbn : bq < wr.heap.size := Nat.lt_of_lt_of_le hbq hJ.bel.size
          rw [Nat.zero_add] at e0 e1 e2 e3 e4 e5
          have E := Lib.hid (fun W (hW : Below wq.heap.size wq W) => (⟨(hW.cell (p := ⟨gx, k * 6, none⟩) hgx).trans e0, (hW.cell (p := ⟨gx, k * 6 + 1, none⟩) hgx).trans e1, (hW.cell (p := ⟨gx, k * 6 + 2, none⟩) hgx).trans e2, (hW.cell (p := ⟨gx, k * 6 + 3, none⟩) hgx).trans e3, (hW.cell (p := ⟨gx, k * 6 + 4, none⟩) hgx).trans e4, (hW.cell (p := ⟨gx, k * 6 + 5, none⟩) hgx).trans e5⟩ : And _ (And _ (And _ (And _ (And _ (_)))))))
          have hwk : IntKind.i64.wrap ((k : Int) + 1) = (k : Int) + 1 := by have h2 := HqL.out; rw [IntKind.wrap_i64]; omega
          have HN := Lib.hid (show ∀ W, In wq [] W → LsRel wq ql.length (.int .i64 ((k : Int) + 1)) W from fun W hW => ⟨k + 1, hin, by simp, hW⟩)
          replace hJ := hJ.alloc 25 #[.bool q.neg, .string q.num, .string q.den]
          clear hq hx hv k1 k2 k3 k5 k6 k7 k8 m1 m2 c1 c2 l1 l2 lq hr1 hr2 e0 e1 e2 e3 e4 e5 d0 d1 d2 hgx hbq
          obtain ⟨g10, hg10⟩ : ∃ g, g = wr.heap.size := ⟨_, rfl⟩
          go_upto_region 13 with (fail)
          clear x0 x1 x2 hbn
          rw [← hg10] at hJ ⊢
          generalize World.alloc _ _ = W9 at hJ ⊢
          clear hg10
          refine wp_region_in hJ (by kernel_rfl) (by kernel_rfl) ?_
          repeat (first
            | (refine wpSeq_off (by rfl) ?_; try simp only [Act.put, List.setIfInBounds_toArray, List.set_cons_zero, List.set_cons_succ])
            | (refine wpSeq_val (v := ?_) (by rfl) (fun W hS => ?_) ?_
               rotate_left
               · (have fx := hS.facts; simp only [factsOf, cellsOf, Nat.zero_add, Nat.reduceAdd] at fx; have fy0 := E.out W hS.bel; clear hS; go_simp; first | done | with_reducible rfl)
               try simp only [Act.put, List.setIfInBounds_toArray, List.set_cons_zero, List.set_cons_succ]))
          refine wpSeq_call (v := .bool true) (by rfl) (fun W hS => ?_) (fun W hS => (H1.out W hS.bel)) ?_
          · (clear hS; go_simp; done)
          try simp only [Act.put, List.setIfInBounds_toArray, List.set_cons_zero, List.set_cons_succ]
          repeat (first
            | (refine wpSeq_off (by rfl) ?_; try simp only [Act.put, List.setIfInBounds_toArray, List.set_cons_zero, List.set_cons_succ])
            | (refine wpSeq_val (v := ?_) (by rfl) (fun W hS => ?_) ?_
               rotate_left
               · (have fx := hS.facts; simp only [factsOf, cellsOf, Nat.zero_add, Nat.reduceAdd] at fx; have fy0 := E.out W hS.bel; clear hS; go_simp; first | done | with_reducible rfl)
               try simp only [Act.put, List.setIfInBounds_toArray, List.set_cons_zero, List.set_cons_succ]))
          refine wpSeq_nil (fun W hS => ?_)
          have HX := Lib.hid (HN.out _ hS.tail)
          clear hS hJ E H1
          go_wp2_with fail
          go_roundw
          case rel => exact HX.out
          case measure => simp [intOf]; omega
        · obtain rfl : k = ql.length := by omega
          have hi1 : ¬ (ql.length : Int) < (ql.length : Int) := by omega
          have hI := HI.out.call hJ.bel
          have hsq := SlQ.up HSQ.out hJ.bel
          have hsv := SlQ.up HSV.out hJ.bel
          have HSP8 := Lib.hid (SlP.up HSP9.out hJ.bel)
          have HBC := Lib.hid (HBK.out wr hI.bel 4000 (by decide) _ _ ql vl true (-1) hsq hsv (fun x hx => by
            obtain ⟨j, hj, rfl⟩ := List.getElem_of_mem hx
            exact (HLE.out j _ _ (List.getElem?_eq_getElem hj) (List.getElem?_eq_getElem (by rw [HVL.out, ← HQL.out]; exact hj))).1) (fun x hx => by
            obtain ⟨j, hj, rfl⟩ := List.getElem_of_mem hx
            exact (HLE.out j _ _ (List.getElem?_eq_getElem (by rw [HQL.out, ← HVL.out]; exact hj)) (List.getElem?_eq_getElem hj)).2))
          have fx := hI.facts
          simp only [factsOf, cellsOf, Nat.zero_add, Nat.reduceAdd] at fx
          clear hsq hsv hJ
          go_wp2_with fail
          refine HBC.out.mono ?_
          rintro e w5 hp
          obtain ⟨vq2, vv2, qs2, vs2, rfl, hb, hsq2, hsv2, hto⟩ := brake_gen HG.out HQL.out HVL.out hp
          obtain ⟨Aq2, nq2, Cq2, rfl, hnq2, _⟩ := id hsq2
          obtain ⟨Av2, nv2, Cv2, rfl, hnv2, _⟩ := id hsv2
          subst hnq2 hnv2
          replace hI := (hI.call hb).alloc 61 #[.slice Aq2 qs2.length Cq2, .slice Av2 vs2.length Cv2, .bool true, .int .i64 (-1)]
          have hba : Below w5.heap.size w5 (w5.alloc (.cells #[.slice Aq2 qs2.length Cq2, .slice Av2 vs2.length Cv2, .bool true, .int .i64 (-1)] 61)) := (Below.refl _ _).alloc (Nat.le_refl _) _
          have HSQ2 := Lib.hid (SlQ.up hsq2 hba)
          have HSV2 := Lib.hid (SlQ.up hsv2 hba)
          replace HSP8 := Lib.hid (SlP.up (SlP.up HSP8.out hb) hba)
          have HTO := Lib.hid hto
          clear hb hp hsq2 hsv2 hba hto fx HBC
          obtain ⟨g11, hg11⟩ : ∃ g, g = w5.heap.size := ⟨_, rfl⟩
          go_upto_region 17 with (fail)
          rw [← hg11] at hI ⊢
          generalize World.alloc _ _ = W5 at hI HSQ2 HSV2 HSP8 ⊢
          clear hg11
          have hl2 : qs2.length = L.length := by rw [HTO.out.1]; exact HqL.out
          have hl3 : vs2.length = L.length := by rw [HTO.out.2.1, HVL.out, HLL.out]
          have hq2 : ((qs2.length : Int) != (L.length : Int)) = false := by simp [hl2]
          have hq3 : ((vs2.length : Int) != (L.length : Int)) = false := by simp [hl3]
          have hwt : IntKind.i64.wrap ((t9 : Int) + 1) = (t9 : Int) + 1 := by rw [IntKind.wrap_i64]; omega
          have fx := hI.facts
          simp only [factsOf, cellsOf, Nat.zero_add, Nat.reduceAdd] at fx
          have hz := fun i => hI.free (k := 1) (i := i) rfl
          have hbk := hI.blkAt (k := 1) rfl
          have hgr := grown4 W5 g6 (.slice Aq2 qs2.length Cq2) (.slice Av2 vs2.length Cv2) (.bool true) (.int .i64 (-1))
          have HX := Lib.hid (show HoRel w1 g6 g5 _ gx cx S1 ar.L qs0 vs0 (.int .i64 ((t9 : Int) + 1)) _ from ⟨t9 + 1, qs2, vs2, Aq2, Cq2, Av2, Cv2, by simp, ht60, (hI.all4 (a := [_]) (.slice Aq2 qs2.length Cq2) (.slice Av2 vs2.length Cv2) (.bool true) (.int .i64 (-1))).tail, SlQ.far HSQ2.out (by omega) hbk hgr, SlQ.far HSV2.out (by omega) hbk hgr, SlP.far HSP8.out (by have := HSL.out; omega) hbk hgr, by rw [HTO.out.1]; exact HQL.out, by rw [HTO.out.2.1]; exact HVL.out, fun j x q0 v0 q' v' h1 h2 h3 h4 h5 => by
            have hj := (List.getElem?_eq_some_iff.1 h1).1
            have a1 : ql[j]? = some (ql[j]'(by rw [HQL.out]; exact hj)) := List.getElem?_eq_getElem _
            have a2 : vl[j]? = some (vl[j]'(by rw [HVL.out]; exact hj)) := List.getElem?_eq_getElem _
            exact (HH.out j x q0 v0 _ _ h1 h2 h3 a1 a2).step (HG.out.lk x (List.mem_of_getElem? h1)).brake.1 (HTO.out.2.2.1 j x _ _ q' v' hj h1 a1 a2 h4 h5)⟩)
          clear hI hbk hgr hl2 hl3
          go_wp2_with fail
          clear fx hz
          have hX := HX.out
          clear HX
          generalize World.setCell _ _ _ = W7 at hX ⊢
          have HX := Lib.hid hX
          clear hX
          go_roundw
          case rel => exact HX.out
          case measure => simp [intOf]; omega
    · obtain rfl : t9 = 60 := by omega
      have hti : ¬ ((60 : Nat) : Int) < 60 := by omega
      have HNC := Lib.hid (fun W (hW : Below wq.heap.size wq W) => nonec_any 38 (enters_own Tryd.func38 (by kernel_rfl) rfl) W (.slice Av9 vl.length Cv9) vl (SlQ.up HSV.out hW) (by rw [HVL.out, HLL.out]; omega) (fun x hx W' hW' => by
        obtain ⟨j, hj, rfl⟩ := List.getElem_of_mem hx
        have hjL : j < ar.L.length := by rw [← HVL.out]; exact hj
        obtain ⟨q0, v0, s, k1, k2, k3, k4, k5, k6, k7, k8⟩ := HL1.out j _ (List.getElem?_eq_getElem hjL)
        have a1 : ql[j]? = some (ql[j]'(by rw [HQL.out]; exact hjL)) := List.getElem?_eq_getElem _
        have a2 : vl[j]? = some vl[j] := List.getElem?_eq_getElem _
        have h0 := hold_end k8 k7 (HH.out j _ q0 v0 _ _ (List.getElem?_eq_getElem hjL) k1 k2 a1 a2)
        exact (zeroR wq HTQ.out vl[j] (HLE.out j _ _ a1 a2).2 h0 (by decide)).out W' (hW.trans (hW'.mono hW.size))))
      have fx := hI.facts
      simp only [factsOf, cellsOf, Nat.zero_add, Nat.reduceAdd] at fx
      go_wp2_with fail
      refine (HNC.out wq (Below.refl _ _)).mono ?_
      rintro e wn ⟨rfl, hb⟩
      have hfin := HB1.out.trans ((hI.call hb).bel.mono HB1.out.size)
      clear hI hb fx HNC
      go_wp2
      go_ret
      exact ⟨rfl, hfin⟩
end Go.Proofs.YtnnbnecpcppkdaaDoor.stopHolds
