/- StopSpans: the walk. Conditions: those typed. -/
import Derived.Test.YtnnbnecpcppkdaaDoorBrkGen
import Derived.Test.YtnnbnecpcppkdaaDoorBraked
import Derived.Test.YtnnbnecpcppkdaaDoorPath
import Derived.Test.YtnnbnecpcppkdaaDoorNeqQ
import Derived.Test.YtnnbnecpcppkdaaDoorEqSpan
import Derived.Test.YtnnbnecpcppkdaaDoorArmArg
import Derived.Test.YtnnbnecpcppkdaaDoorTwoJ
namespace Go.Proofs.YtnnbnecpcppkdaaDoor.stopSpans
open Go.RowKit Go.Gy
set_option linter.unusedVariables false
set_option linter.unusedSimpArgs false
/-- a joint that brakes too long -/
def LateAt (x : Lk × List P2) (v : Q3) : Prop := x.1.brake.q * 2000 < absQ v.q
def LaRel (w : World) (L : List (Lk × List P2)) (vl : List Q3) (i t : Value) (wr : World) : Prop := ∃ (k : Nat) (b : Bool), k ≤ L.length ∧ i = .int .i64 k ∧ t = .bool b ∧ (b = true ↔ ∃ (j : Nat) (x : Lk × List P2) (v : Q3), j < k ∧ L[j]? = some x ∧ vl[j]? = some v ∧ LateAt x v) ∧ In w [] wr
theorem spans_late {w w' : World} {M : Nat} {a : Ar} {ql vl : List Q3} (hA : ArmE a 0) (hq : ql.length = a.L.length) (hv : vl.length = a.L.length) {j : Nat} {x : Lk × List P2} {v : Q3} (hx : a.L[j]? = some x) (hvj : vl[j]? = some v) (hl : LateAt x v) {e : Ending} (h : SpansPost w M a ql vl e w') :
    e = .returned (.tuple #[.slice none 0 0, .int .i64 2]) ∧ Below w.heap.size w w' := by
  have hF : FitsE a ql.length vl.length 0 := by rw [hq, hv]; exact FitsE.ok hA
  have hG := (hA.zero rfl).2.2
  obtain ⟨u, c, he, hbl, ⟨h1, h2, _⟩ | ⟨_, ⟨i, y, z, h1, h2, n, e', h3, h4, h5⟩, h6⟩ | ⟨_, h1, S, h2, h3, h4⟩⟩ := h
  · exact absurd (h1.uniq hF) h2
  · subst h5
    have hb := (hG y (List.mem_of_getElem? h1)).2.2.2.2
    rcases h3 with ⟨g1, _⟩ | ⟨_, _, _, g4⟩ | ⟨_, _, g3, _⟩
    · grind
    · subst g4 h6
      exact ⟨he, hbl⟩
    · exact absurd g3 h4
  · exfalso
    have hj := (List.getElem?_eq_some_iff.1 hx).1
    have k1 : S[j]? = some (S[j]'(by omega)) := List.getElem?_eq_getElem _
    have k2 : ql[j]? = some (ql[j]'(by omega)) := List.getElem?_eq_getElem _
    obtain ⟨n, t1, _⟩ := h3.2 j _ x _ v k1 hx k2 hvj
    obtain ⟨_, t2, _⟩ := ticks_ok t1
    unfold LateAt at hl
    grind
theorem spans_fine {w w' : World} {M : Nat} {a : Ar} {ql vl : List Q3} (hA : ArmE a 0) (hq : ql.length = a.L.length) (hv : vl.length = a.L.length) (hn : ∀ (j : Nat) (x : Lk × List P2) (v : Q3), a.L[j]? = some x → vl[j]? = some v → ¬ LateAt x v) {e : Ending} (h : SpansPost w M a ql vl e w') :
    ∃ (v : Value) (S : List P2), e = .returned (.tuple #[v, .int .i64 0]) ∧ Below w.heap.size w w' ∧ S.length = a.L.length ∧ SpansOK M a.L ql vl S ∧ w'.ownsRow w.heap.size 68 6 v S.length (S.flatMap encP) := by
  have hF : FitsE a ql.length vl.length 0 := by rw [hq, hv]; exact FitsE.ok hA
  have hG := (hA.zero rfl).2.2
  obtain ⟨u, c, he, hbl, ⟨h1, h2, _⟩ | ⟨_, ⟨i, y, z, h1, h2, n, e', h3, h4, h5⟩, h6⟩ | ⟨_, h1, S, h2, h3, h4⟩⟩ := h
  · exact absurd (h1.uniq hF) h2
  · exfalso
    have hb := (hG y (List.mem_of_getElem? h1)).2.2.2.2
    have hl := hn i y z h1 h2
    unfold LateAt at hl
    exact h4 (ticks_fine h3 hb (by grind))
  · subst h1
    exact ⟨u, S, he, hbl, h2, h3, h4⟩
theorem spans_bad {w w' : World} {M : Nat} {a : Ar} {ql vl : List Q3} {f : Int} (hF : FitsE a ql.length vl.length f) (hf : f ≠ 0) {e : Ending} (h : SpansPost w M a ql vl e w') : e = .returned (.tuple #[.slice none 0 0, .int .i64 f]) ∧ Below w.heap.size w w' := by
  obtain ⟨u, c, he, hbl, ⟨h1, _, h3⟩ | ⟨h1, _⟩ | ⟨h1, _⟩⟩ := h
  · obtain rfl := h1.uniq hF
    subst h3
    exact ⟨he, hbl⟩
  · exact absurd (hF.uniq h1) hf
  · exact absurd (hF.uniq h1) hf
theorem brake_bad {w w' : World} {N : Nat} {a : Ar} {ql vl : List Q3} {pw : Bool} {hd f : Int} (hF : FitsE a ql.length vl.length f) (hf : f ≠ 0) {e : Ending} (h : BrakePost w N a ql vl pw hd e w') : e = .returned (.tuple #[.agg #[.slice none 0 0, .slice none 0 0, .bool false, .int .i64 0], .int .i64 f]) ∧ Below w.heap.size w w' := by
  obtain ⟨vq, vv, p, h', c, he, hbl, ⟨h1, _, rfl, rfl, rfl, rfl⟩ | ⟨h1, _⟩⟩ := h
  · obtain rfl := h1.uniq hF
    exact ⟨he, hbl⟩
  · exact absurd (hF.uniq h1) hf
theorem brake_fine {w w' : World} {N : Nat} {a : Ar} {ql vl : List Q3} {pw : Bool} {hd : Int} (hA : ArmE a 0) (hq : ql.length = a.L.length) (hv : vl.length = a.L.length) {e : Ending} (h : BrakePost w N a ql vl pw hd e w') :
    ∃ (vq vv : Value) (qs vs : List Q3), e = .returned (.tuple #[.agg #[vq, vv, .bool pw, .int .i64 hd], .int .i64 0]) ∧ Below w.heap.size w w' ∧ SlQ w' w'.heap.size vq qs ∧ SlQ w' w'.heap.size vv vs ∧ BrkTo N a.L ql vl qs vs a.L.length := by
  have hF : FitsE a ql.length vl.length 0 := by rw [hq, hv]; exact FitsE.ok hA
  obtain ⟨vq, vv, p, h', c, he, hbl, ⟨h1, h2, _⟩ | ⟨_, h1, h2, h3, qs, vs, h4, h5, h6⟩⟩ := h
  · exact absurd (h1.uniq hF) h2
  · subst h1 h2 h3
    exact ⟨vq, vv, qs, vs, he, hbl, h4, h5, h6⟩
theorem lh_step {b q v : Rat} (hb : 0 < b) (j : Nat) : minQ (minQ q (pathQ b q v (j - 1))) (pathQ b q v j) = minQ q (pathQ b q v j) ∧ maxQ (maxQ q (pathQ b q v (j - 1))) (pathQ b q v j) = maxQ q (pathQ b q v j) := by
  rcases j with _ | i
  · have h0 : pathQ b q v 0 = q := rfl
    rw [Nat.zero_sub, h0]
    unfold minQ maxQ
    constructor <;> (split <;> (try split) <;> grind)
  · rw [Nat.add_sub_cancel]
    rcases Rat.le_total (a := 0) (b := v) with hv | hv
    · have h1 := pathQ_up (q := q) hb hv 0 i
      have h2 := pathQ_up (q := q) hb hv i 1
      rw [Nat.zero_add] at h1
      have h1 : q ≤ pathQ b q v i := h1
      unfold minQ maxQ
      constructor <;> (split <;> split <;> (try split) <;> grind)
    · have h1 := pathQ_down (q := q) hb hv 0 i
      have h2 := pathQ_down (q := q) hb hv i 1
      rw [Nat.zero_add] at h1
      have h1 : pathQ b q v i ≤ q := h1
      unfold minQ maxQ
      constructor <;> (split <;> split <;> (try split) <;> grind)
theorem spans_both {w w' : World} {M : Nat} {a : Ar} {ql vl : List Q3} (hA : ArmE a 0) (hq : ql.length = a.L.length) (hv : vl.length = a.L.length) {e : Ending} (h : SpansPost w M a ql vl e w') :
    ∃ (lb : Bool) (Ax : Option Addr) (nx Cx : Nat) (cx : Int), (lb = true ↔ ∃ (j : Nat) (x : Lk × List P2) (v : Q3), a.L[j]? = some x ∧ vl[j]? = some v ∧ LateAt x v) ∧ e = .returned (.tuple #[.slice Ax nx Cx, .int .i64 cx]) ∧ Below w.heap.size w w' ∧
      (lb = true → Ax = none ∧ nx = 0 ∧ Cx = 0 ∧ cx = 2) ∧ (lb = false → cx = 0 ∧ ∃ S : List P2, SlP w' w'.heap.size (.slice Ax nx Cx) S ∧ S.length = nx ∧ S.length = a.L.length ∧ SpansOK M a.L ql vl S) := by
  by_cases hl : ∃ (j : Nat) (x : Lk × List P2) (v : Q3), a.L[j]? = some x ∧ vl[j]? = some v ∧ LateAt x v
  · obtain ⟨j, x, v, h1, h2, h3⟩ := id hl
    obtain ⟨he, hb⟩ := spans_late hA hq hv h1 h2 h3 h
    exact ⟨true, none, 0, 0, 2, ⟨fun _ => hl, fun _ => rfl⟩, he, hb, fun _ => ⟨rfl, rfl, rfl, rfl⟩, fun h => by cases h⟩
  · obtain ⟨v, S, he, hb, h1, h2, h3⟩ := spans_fine hA hq hv (fun j x v g1 g2 g3 => hl ⟨j, x, v, g1, g2, g3⟩) h
    have h4 := SlP.ownS h3 rfl
    obtain ⟨A, n, c, rfl, hn, _⟩ := id h4
    exact ⟨false, A, n, c, 0, ⟨(fun h => by cases h), fun h => absurd h hl⟩, he, hb, (fun h => by cases h), fun _ => ⟨rfl, S, h4, hn, h1, h2⟩⟩
theorem slow_zero {b v : Rat} (hb : 0 < b) (h : v = 0) : slowQ b v = 0 := by
  rw [slow_path hb, h]
  show stepV b 0 = 0
  unfold stepV
  rw [if_neg (by grind), if_neg (by grind)]
theorem add_back (a b : Rat) : a + b - a = b := by grind
theorem In.join {w wx W : World} {l l' : List (Nat × TypeId × Array Value)} (h : In w l wx) (h' : In wx l' W) : In w (l' ++ l) W := by
  refine ⟨h.bel.trans (h'.bel.mono h.bel.size), fun x hx => ?_, fun x hx => ?_, ?_⟩
  · rcases List.mem_append.1 hx with h1 | h1
    · exact h'.blk x h1
    · exact (h.call h'.bel).blk x h1
  · rcases List.mem_append.1 hx with h1 | h1
    · exact Nat.le_trans h.bel.size (h'.new x h1)
    · exact h.new x h1
  · rw [List.map_append]
    refine List.nodup_append.2 ⟨h'.apart, h.apart, fun a ha b hb => ?_⟩
    obtain ⟨x, hx, rfl⟩ := List.mem_map.1 ha
    obtain ⟨y, hy, rfl⟩ := List.mem_map.1 hb
    have h1 := h'.new x hx
    have h2 := (h.blk y hy).lt
    omega
/-- behind gantref5.Path -/
def PtT (w : World) (l : List (Nat × TypeId × Array Value)) (b q v : Rat) (x : Value × Nat × Bool × Nat) (W : World) : Prop :=
  PathEnd b v x.2.1 ∧ In w l W ∧ x.2.2.2 ≤ W.heap.size ∧ SlQ W x.2.2.2 x.1 ((pathL b q v x.2.1).map toQ3)
theorem PtT.lasts (w : World) (l : List (Nat × TypeId × Array Value)) (b q v : Rat) (x : Value × Nat × Bool × Nat) : Lasts (PtT w l b q v x) := fun W W' ⟨h1, h3, h4, h5⟩ hb =>
  ⟨h1, h3.call hb, Nat.le_trans h4 hb.size, h5.below (hb.mono h4)⟩
def LhRel (w : World) (g19 g18 : Nat) (b q v : Rat) (n : Nat) (i : Value) (wr : World) : Prop := ∃ (j : Nat) (lo hi : Q3), j ≤ n ∧ i = .int .i64 j ∧ (lo.can ∧ hi.can) ∧ (lo.le 5000000000 ∧ hi.le 5000000000) ∧ (lo.q = minQ q (pathQ b q v (j - 1)) ∧ hi.q = maxQ q (pathQ b q v (j - 1))) ∧ In w [(g19, 25, #[.bool hi.neg, .string hi.num, .string hi.den]), (g18, 25, #[.bool lo.neg, .string lo.num, .string lo.den])] wr
set_option maxRecDepth 100000 in
set_option maxHeartbeats 8000000 in
theorem walk (va vs : Value) (w : World) {b0 b1 : Nat} (f0 : ArmArg w va b0) (f1 : StateArg w vs b1) (hT : TabW w) (hk : b0 + b1 ≤ 1048576) :
    Calls Tryd.prog 8 #[va, vs] w fun e w' => e = .returned (.bool true) ∧ Below w.heap.size w w' := by
  obtain ⟨a, rfl, hAt, hle⟩ := f0
  obtain ⟨vq, vv, pw, hd, rfl, _, ⟨ql, hql, lql, _⟩, ⟨vl, hvl, lvl, _⟩⟩ := f1
  have HT := Lib.hid hT
  have ST := stopsR w hT
  replace hle : a.le 1048576 := hle.more (by omega)
  replace lql : ∀ x ∈ ql, x.le 1048576 := fun x hx => (lql x hx).more (by omega)
  replace lvl : ∀ x ∈ vl, x.le 1048576 := fun x hx => (lvl x hx).more (by omega)
  have HCK := Lib.hid (fun W (hW : Below w.heap.size w W) => armCheck_any W (tabs w hT hW) a (hAt.up hW) hle (by decide))
  have HBK := Lib.hid (fun W (hW : Below w.heap.size w W) => brake_any W (tabs w hT hW) a (hAt.up hW) hle vq vv ql vl pw hd (SlQ.up hql hW) (SlQ.up hvl hW) lql lvl (by decide))
  have HSP := Lib.hid (fun W (hW : Below w.heap.size w W) => spans_any W (tabs w hT hW) a (hAt.up hW) hle vq vv ql vl (SlQ.up hql hW) (SlQ.up hvl hW) lql lvl (by decide))
  have HLQ := Lib.hid lql
  have HLV := Lib.hid lvl
  have HLE := Lib.hid hle
  obtain ⟨Aq, nq, Cq, rfl, hnq, _, _, hrq⟩ := hql
  obtain ⟨Av, nv, Cv, rfl, hnv, _, _, hrv⟩ := hvl
  subst hnq hnv
  have HRQ := Lib.hid hrq
  have HRV := Lib.hid hrv
  obtain ⟨ar, har⟩ : ∃ ar, ar = a := ⟨_, rfl⟩
  rw [← har] at HCK HBK HSP HLE ⊢
  obtain ⟨nm, ⟨px, py⟩, hf, t, va, L⟩ := a
  obtain ⟨⟨A, N, C, hva, hNL, hNC, _, hrd⟩, hshp⟩ := hAt
  obtain rfl : va = .slice A N C := hva
  obtain rfl : L.length = N := (Ar.ks_len ⟨nm, ⟨px, py⟩, hf, t, .slice A N C, L⟩).symm.trans hNL
  have hval : ar.val = .agg #[.string nm, .bool px.neg, .string px.num, .string px.den, .bool py.neg, .string py.num, .string py.den, .bool hf, .bool t.neg, .string t.num, .string t.den, .slice A L.length C] := by rw [har]; rfl
  have HLL := Lib.hid (show ar.L = L by rw [har])
  rw [hval] at HCK HBK HSP ⊢
  have HRD := Lib.hid hrd
  have HSH := Lib.hid (show ∀ x ∈ L, SlP w w.heap.size x.1.shape x.2 from hshp)
  have HKS := Lib.hid (show ∀ i : Nat, (L.map (·.1))[i]? = (L[i]?).map (·.1) from fun i => List.getElem?_map)
  have hI := ((In.start w).alloc 37 #[.string nm, .bool px.neg, .string px.num, .string px.den, .bool py.neg, .string py.num, .string py.den, .bool hf, .bool t.neg, .string t.num, .string t.den, .slice A L.length C]).alloc 61 #[.slice Aq ql.length Cq, .slice Av vl.length Cv, .bool pw, .int .i64 hd]
  rw [World.size_alloc] at hI
  clear hrq hrv hrd hshp hNL har hval hT hle lql lvl hk
  go_enter Tryd.func8, Tryd.ntmps8
  go_upto_region 1 with (fail)
  generalize World.alloc _ _ = W1 at hI ⊢
  have fx := hI.facts
  simp only [factsOf, cellsOf, Nat.zero_add, Nat.reduceAdd] at fx
  go_wp2_with fail
  refine (ST.out _ hI.bel).mono ?_
  rintro e wn ⟨rfl, hb⟩
  replace hI := hI.call hb
  clear hb
  clear fx ST
  have fx := hI.facts
  simp only [factsOf, cellsOf, Nat.zero_add, Nat.reduceAdd] at fx
  go_wp2_with fail
  refine (HCK.out _ hI.bel).mono ?_
  rintro e w2 ⟨c, rfl, hAE, hb⟩
  replace hI := hI.call hb
  clear hb fx HCK
  by_cases hc : c = 0
  · subst hc
    by_cases hlq : ql.length = L.length
    · by_cases hlv : vl.length = L.length
      · have hA0 : ArmE ar 0 := hAE
        have HA0 := Lib.hid hA0
        have HQL := Lib.hid hlq
        have HVL := Lib.hid hlv
        have hn1 : ((ql.length : Int) != (L.length : Int)) = false := by simp [hlq]
        have hn2 : ((vl.length : Int) != (L.length : Int)) = false := by simp [hlv]
        have hL3 : 1 ≤ L.length ∧ L.length ≤ 3 := by rw [← HLL.out]; exact ⟨(hA0.zero rfl).1, (hA0.zero rfl).2.1⟩
        have HGL := Lib.hid (show ∀ x ∈ L, LinkGood x.1 from by rw [← HLL.out]; exact (hA0.zero rfl).2.2)
        have HLK := Lib.hid (show ∀ x ∈ L, x.1.le 1048576 from fun x hx => (HLE.out.2.2.2 x (by rw [HLL.out]; exact hx)).1)
        have fx := hI.facts
        simp only [factsOf, cellsOf, Nat.zero_add, Nat.reduceAdd] at fx
        clear hlq hlv hAE hA0
        go_wp2_with fail
        refine (HBK.out _ hI.bel).mono ?_
        rintro e w3 hp
        obtain ⟨vq2, vv2, qs, vs, rfl, hb, hsq2, hsv2, hto⟩ := brake_fine HA0.out (by rw [HLL.out]; exact HQL.out) (by rw [HLL.out]; exact HVL.out) hp
        rw [HLL.out] at hto
        have HTO := Lib.hid hto
        obtain ⟨Aq2, nq2, Cq2, rfl, hnq2, _⟩ := id hsq2
        obtain ⟨Av2, nv2, Cv2, rfl, hnv2, _⟩ := id hsv2
        subst hnq2 hnv2
        have hn3 : ((qs.length : Int) != (ql.length : Int)) = false := by simp [hto.1]
        have hn4 : ((vs.length : Int) != (vl.length : Int)) = false := by simp [hto.2.1]
        have hba : Below w3.heap.size w3 (w3.alloc (.cells #[.slice Aq2 qs.length Cq2, .slice Av2 vs.length Cv2, .bool pw, .int .i64 hd] 61)) := (Below.refl _ _).alloc (Nat.le_refl _) _
        have HSQ2 := Lib.hid (SlQ.up hsq2 hba)
        have HSV2 := Lib.hid (SlQ.up hsv2 hba)
        replace hI := (hI.call hb).alloc 61 #[.slice Aq2 qs.length Cq2, .slice Av2 vs.length Cv2, .bool pw, .int .i64 hd]
        obtain ⟨g6, hg6⟩ : ∃ g, g = w3.heap.size := ⟨_, rfl⟩
        clear hb hp fx hsq2 hsv2 hba hto HBK
        go_upto_region 7 with (fail)
        rw [← hg6] at hI ⊢
        generalize World.alloc _ _ = W3 at hI HSQ2 HSV2 ⊢
        clear hg6
        have fx := hI.facts
        simp only [factsOf, cellsOf, Nat.zero_add, Nat.reduceAdd] at fx
        go_wp2_with fail
        refine (HSP.out _ hI.bel).mono ?_
        rintro e w4 hp
        obtain ⟨lb, Ax, nx, Cx, cx, hlb, rfl, hb, hyes, hno⟩ := spans_both HA0.out (by rw [HLL.out]; exact HQL.out) (by rw [HLL.out]; exact HVL.out) hp
        rw [HLL.out] at hlb hno
        have HLB := Lib.hid hlb
        have HYES := Lib.hid hyes
        have HNO := Lib.hid hno
        replace hI := hI.call hb
        replace HSQ2 := Lib.hid (SlQ.up HSQ2.out hb)
        replace HSV2 := Lib.hid (SlQ.up HSV2.out hb)
        clear hb hp fx hlb hyes hno HSP
        have HI4 := Lib.hid hI
        have HT4 := Lib.hid (tabs w HT.out hI.bel)
        have hst := Lib.hid (show LaRel w4 L vl (.int .i64 0) (.bool false) w4 from ⟨0, false, Nat.zero_le _, rfl, rfl, ⟨(fun h => by cases h), fun ⟨j, x, v, h, _⟩ => absurd h (Nat.not_lt_zero j)⟩, In.start w4⟩)
        have fx := hI.facts
        simp only [factsOf, cellsOf, Nat.zero_add, Nat.reduceAdd] at fx
        clear hI
        go_wp2_with fail
        clear fx
        go_loopw [124, 10] (fun i t wr => LaRel w4 L vl i t wr) (fun i _ _ => L.length - (intOf i).toNat)
        case atStart => exact hst.out
        case round =>
          clear hst
          obtain ⟨k, b, hk, rfl, rfl, hbl, hJ⟩ := hrel
          obtain ⟨wp, rfl⟩ : ∃ wp, wp = wr := ⟨_, rfl⟩
          by_cases hin : k < L.length
          · as_aux_lemma =>
            have hi1 : (k : Int) < (L.length : Int) := by omega
            have hi2 : 0 ≤ (k : Int) ∧ (k : Int) < (L.length : Int) := by omega
            have hiv : 0 ≤ (k : Int) ∧ (k : Int) < (vl.length : Int) := by rw [HVL.out]; omega
            obtain ⟨⟨⟨klen, klow, khigh, kspeed, kbrake, kshape⟩, pts⟩, ha⟩ : ∃ x, L[k]? = some x := ⟨_, List.getElem?_eq_getElem hin⟩
            obtain ⟨v, hv⟩ : ∃ v, vl[k]? = some v := ⟨_, List.getElem?_eq_getElem (by rw [HVL.out]; exact hin)⟩
            obtain ⟨A5, n5, c5, hk5, _⟩ := HSH.out _ (List.mem_of_getElem? ha)
            obtain rfl : kshape = .slice A5 n5 c5 := hk5
            obtain ⟨b9, o, hAe, hbB, hlc⟩ := Rd.lnk HRD.out (i := k) (k := ⟨klen, klow, khigh, kspeed, kbrake, .slice A5 n5 c5⟩) (by
              show (L.map (·.1))[k]? = _
              rw [HKS.out, ha]; rfl)
            have hbw := HI4.out.bel.trans (hJ.bel.mono HI4.out.bel.size)
            have hlc := hlc.below hbw hbB
            have hbn : b9 < wp.heap.size := Nat.lt_of_lt_of_le hbB hbw.size
            obtain ⟨f0, f1, f2, f3, f4, f5, f6, f7, f8, f9, f10, f11, f12, f13, f14, f15⟩ := hlc
            subst hAe
            have lb : kbrake.le 1048576 := (HLK.out _ (List.mem_of_getElem? ha)).2.2.2.2
            have lv : v.le 1048576 := HLV.out v (List.mem_of_getElem? hv)
            obtain ⟨za, qa, _, la, AB⟩ := absR w4 HT4.out v lv
            obtain ⟨z2, q2, _, l2, O2⟩ := ofR w4 HT4.out 2000
            obtain ⟨zm, qm, _, lm, MU⟩ := mulR w4 HT4.out kbrake z2 lb l2
            obtain ⟨k1, _, p1, _, CM⟩ := cmpR w4 HT4.out za zm la lm
            have hq2 : z2.q = 2000 := q2
            rw [qa, qm, hq2] at p1
            have HP1 := Lib.hid (show 0 < k1 ↔ LateAt (⟨klen, klow, khigh, kspeed, kbrake, .slice A5 n5 c5⟩, pts) v from p1)
            obtain ⟨bv2, ov, rfl, hbv, c0, c1, c2⟩ := Rd.quot HRV.out hv
            have hb1 := HI4.out.cell (k := 1) (i := 1) rfl rfl
            have hg3l := HI4.out.lt (k := 1) rfl
            have E := Lib.hid (fun W (hW : Below w4.heap.size w4 W) => (⟨(hW.cell (p := ⟨w.heap.size + 1, 1, none⟩) hg3l).trans hb1, ((HI4.out.bel.trans (hW.mono HI4.out.bel.size)).cell (p := ⟨bv2, ov + k * 3, none⟩) hbv).trans c0, ((HI4.out.bel.trans (hW.mono HI4.out.bel.size)).cell (p := ⟨bv2, ov + k * 3 + 1, none⟩) hbv).trans c1, ((HI4.out.bel.trans (hW.mono HI4.out.bel.size)).cell (p := ⟨bv2, ov + k * 3 + 2, none⟩) hbv).trans c2, Nat.lt_of_lt_of_le hbv (HI4.out.bel.trans (hW.mono HI4.out.bel.size)).size⟩ : And _ (And _ (And _ (And _ _)))))
            have hwk : IntKind.i64.wrap ((k : Int) + 1) = (k : Int) + 1 := by rw [IntKind.wrap_i64]; omega
            have HN := Lib.hid (show ∀ (b' : Bool), (b' = true ↔ b = true ∨ LateAt (⟨klen, klow, khigh, kspeed, kbrake, .slice A5 n5 c5⟩, pts) v) → ∀ W, In w4 [] W → LaRel w4 L vl (.int .i64 ((k : Int) + 1)) (.bool b') W from fun b' hb' W hW => ⟨k + 1, b', hin, by simp, rfl, hb'.trans ⟨fun h => by
              rcases h with h | h
              · obtain ⟨j, x, y, h1, h2⟩ := hbl.mp h
                exact ⟨j, x, y, by omega, h2⟩
              · exact ⟨k, _, v, Nat.lt_succ_self k, ha, hv, h⟩, fun ⟨j, x, y, h1, h2, h3, h4⟩ => by
              rcases Nat.lt_succ_iff_lt_or_eq.mp h1 with h | h
              · exact .inl (hbl.mpr ⟨j, x, y, h, h2, h3, h4⟩)
              · subst h
                rw [ha] at h2
                rw [hv] at h3
                cases h2
                cases h3
                exact .inr h4⟩, hW⟩)
            replace hJ := hJ.alloc 28 #[.bool klen.neg, .string klen.num, .string klen.den, .bool klow.neg, .string klow.num, .string klow.den, .bool khigh.neg, .string khigh.num, .string khigh.den, .bool kspeed.neg, .string kspeed.num, .string kspeed.den, .bool kbrake.neg, .string kbrake.num, .string kbrake.den, .slice A5 n5 c5]
            obtain ⟨g12, hg12⟩ : ∃ g, g = wp.heap.size := ⟨_, rfl⟩
            clear hbl ha hv hbv c0 c1 c2 hb1 hg3l lb lv qa q2 hq2 qm p1 la l2 lm
            go_upto_region 16 with (fail)
            clear f0 f1 f2 f3 f4 f5 f6 f7 f8 f9 f10 f11 f12 f13 f14 f15 hbn hbB
            rw [← hg12] at hJ ⊢
            generalize World.alloc _ _ = W5 at hJ ⊢
            clear hg12
            cases b
            · by_cases hk1 : k1 > 0
              · have HX := Lib.hid (HN.out true ⟨fun _ => .inr (HP1.out.mp hk1), fun _ => rfl⟩)
                refine wp_region_in hJ (by kernel_rfl) (by kernel_rfl) ?_
                repeat (first
                  | (refine wpSeq_off (by rfl) ?_; try simp only [Act.put, List.setIfInBounds_toArray, List.set_cons_zero, List.set_cons_succ])
                  | (refine wpSeq_val (v := ?_) (by rfl) (fun W hS => ?_) ?_
                     rotate_left
                     · (have fx := hS.facts; simp only [factsOf, cellsOf, Nat.zero_add, Nat.reduceAdd] at fx; have fy0 := E.out W hS.bel; clear hS; go_simp; first | done | with_reducible rfl)
                     try simp only [Act.put, List.setIfInBounds_toArray, List.set_cons_zero, List.set_cons_succ]))
                refine wpSeq_call (v := .agg #[.bool za.neg, .string za.num, .string za.den]) (by rfl) (fun W hS => ?_) (fun W hS => (AB.out W hS.bel)) ?_
                · (clear hS; go_simp; done)
                try simp only [Act.put, List.setIfInBounds_toArray, List.set_cons_zero, List.set_cons_succ]
                repeat (first
                  | (refine wpSeq_off (by rfl) ?_; try simp only [Act.put, List.setIfInBounds_toArray, List.set_cons_zero, List.set_cons_succ])
                  | (refine wpSeq_val (v := ?_) (by rfl) (fun W hS => ?_) ?_
                     rotate_left
                     · (have fx := hS.facts; simp only [factsOf, cellsOf, Nat.zero_add, Nat.reduceAdd] at fx; have fy0 := E.out W hS.bel; clear hS; go_simp; first | done | with_reducible rfl)
                     try simp only [Act.put, List.setIfInBounds_toArray, List.set_cons_zero, List.set_cons_succ]))
                refine wpSeq_call (v := .agg #[.bool z2.neg, .string z2.num, .string z2.den]) (by rfl) (fun W hS => ?_) (fun W hS => (O2.out W hS.bel)) ?_
                · (clear hS; go_simp; done)
                try simp only [Act.put, List.setIfInBounds_toArray, List.set_cons_zero, List.set_cons_succ]
                repeat (first
                  | (refine wpSeq_off (by rfl) ?_; try simp only [Act.put, List.setIfInBounds_toArray, List.set_cons_zero, List.set_cons_succ])
                  | (refine wpSeq_val (v := ?_) (by rfl) (fun W hS => ?_) ?_
                     rotate_left
                     · (have fx := hS.facts; simp only [factsOf, cellsOf, Nat.zero_add, Nat.reduceAdd] at fx; have fy0 := E.out W hS.bel; clear hS; go_simp; first | done | with_reducible rfl)
                     try simp only [Act.put, List.setIfInBounds_toArray, List.set_cons_zero, List.set_cons_succ]))
                refine wpSeq_call (v := .agg #[.bool zm.neg, .string zm.num, .string zm.den]) (by rfl) (fun W hS => ?_) (fun W hS => (MU.out W hS.bel)) ?_
                · (clear hS; go_simp; done)
                try simp only [Act.put, List.setIfInBounds_toArray, List.set_cons_zero, List.set_cons_succ]
                repeat (first
                  | (refine wpSeq_off (by rfl) ?_; try simp only [Act.put, List.setIfInBounds_toArray, List.set_cons_zero, List.set_cons_succ])
                  | (refine wpSeq_val (v := ?_) (by rfl) (fun W hS => ?_) ?_
                     rotate_left
                     · (have fx := hS.facts; simp only [factsOf, cellsOf, Nat.zero_add, Nat.reduceAdd] at fx; have fy0 := E.out W hS.bel; clear hS; go_simp; first | done | with_reducible rfl)
                     try simp only [Act.put, List.setIfInBounds_toArray, List.set_cons_zero, List.set_cons_succ]))
                refine wpSeq_call (v := .int .i64 k1) (by rfl) (fun W hS => ?_) (fun W hS => (CM.out W hS.bel)) ?_
                · (clear hS; go_simp; done)
                try simp only [Act.put, List.setIfInBounds_toArray, List.set_cons_zero, List.set_cons_succ]
                repeat (first
                  | (refine wpSeq_off (by rfl) ?_; try simp only [Act.put, List.setIfInBounds_toArray, List.set_cons_zero, List.set_cons_succ])
                  | (refine wpSeq_val (v := ?_) (by rfl) (fun W hS => ?_) ?_
                     rotate_left
                     · (have fx := hS.facts; simp only [factsOf, cellsOf, Nat.zero_add, Nat.reduceAdd] at fx; have fy0 := E.out W hS.bel; clear hS; go_simp; first | done | with_reducible rfl)
                     try simp only [Act.put, List.setIfInBounds_toArray, List.set_cons_zero, List.set_cons_succ]))
                refine wpSeq_nil (fun W hS => ?_)
                have HX2 := Lib.hid (HX.out _ hS.tail)
                clear hS hJ E AB O2 MU CM HX
                go_wp2_with fail
                go_roundw
                case rel => exact HX2.out
                case measure => simp [intOf]; omega
              · have HX := Lib.hid (HN.out false ⟨(fun h => by cases h), fun h => by
                  rcases h with h | h
                  · cases h
                  · exact absurd (HP1.out.mpr h) hk1⟩)
                refine wp_region_in hJ (by kernel_rfl) (by kernel_rfl) ?_
                repeat (first
                  | (refine wpSeq_off (by rfl) ?_; try simp only [Act.put, List.setIfInBounds_toArray, List.set_cons_zero, List.set_cons_succ])
                  | (refine wpSeq_val (v := ?_) (by rfl) (fun W hS => ?_) ?_
                     rotate_left
                     · (have fx := hS.facts; simp only [factsOf, cellsOf, Nat.zero_add, Nat.reduceAdd] at fx; have fy0 := E.out W hS.bel; clear hS; go_simp; first | done | with_reducible rfl)
                     try simp only [Act.put, List.setIfInBounds_toArray, List.set_cons_zero, List.set_cons_succ]))
                refine wpSeq_call (v := .agg #[.bool za.neg, .string za.num, .string za.den]) (by rfl) (fun W hS => ?_) (fun W hS => (AB.out W hS.bel)) ?_
                · (clear hS; go_simp; done)
                try simp only [Act.put, List.setIfInBounds_toArray, List.set_cons_zero, List.set_cons_succ]
                repeat (first
                  | (refine wpSeq_off (by rfl) ?_; try simp only [Act.put, List.setIfInBounds_toArray, List.set_cons_zero, List.set_cons_succ])
                  | (refine wpSeq_val (v := ?_) (by rfl) (fun W hS => ?_) ?_
                     rotate_left
                     · (have fx := hS.facts; simp only [factsOf, cellsOf, Nat.zero_add, Nat.reduceAdd] at fx; have fy0 := E.out W hS.bel; clear hS; go_simp; first | done | with_reducible rfl)
                     try simp only [Act.put, List.setIfInBounds_toArray, List.set_cons_zero, List.set_cons_succ]))
                refine wpSeq_call (v := .agg #[.bool z2.neg, .string z2.num, .string z2.den]) (by rfl) (fun W hS => ?_) (fun W hS => (O2.out W hS.bel)) ?_
                · (clear hS; go_simp; done)
                try simp only [Act.put, List.setIfInBounds_toArray, List.set_cons_zero, List.set_cons_succ]
                repeat (first
                  | (refine wpSeq_off (by rfl) ?_; try simp only [Act.put, List.setIfInBounds_toArray, List.set_cons_zero, List.set_cons_succ])
                  | (refine wpSeq_val (v := ?_) (by rfl) (fun W hS => ?_) ?_
                     rotate_left
                     · (have fx := hS.facts; simp only [factsOf, cellsOf, Nat.zero_add, Nat.reduceAdd] at fx; have fy0 := E.out W hS.bel; clear hS; go_simp; first | done | with_reducible rfl)
                     try simp only [Act.put, List.setIfInBounds_toArray, List.set_cons_zero, List.set_cons_succ]))
                refine wpSeq_call (v := .agg #[.bool zm.neg, .string zm.num, .string zm.den]) (by rfl) (fun W hS => ?_) (fun W hS => (MU.out W hS.bel)) ?_
                · (clear hS; go_simp; done)
                try simp only [Act.put, List.setIfInBounds_toArray, List.set_cons_zero, List.set_cons_succ]
                repeat (first
                  | (refine wpSeq_off (by rfl) ?_; try simp only [Act.put, List.setIfInBounds_toArray, List.set_cons_zero, List.set_cons_succ])
                  | (refine wpSeq_val (v := ?_) (by rfl) (fun W hS => ?_) ?_
                     rotate_left
                     · (have fx := hS.facts; simp only [factsOf, cellsOf, Nat.zero_add, Nat.reduceAdd] at fx; have fy0 := E.out W hS.bel; clear hS; go_simp; first | done | with_reducible rfl)
                     try simp only [Act.put, List.setIfInBounds_toArray, List.set_cons_zero, List.set_cons_succ]))
                refine wpSeq_call (v := .int .i64 k1) (by rfl) (fun W hS => ?_) (fun W hS => (CM.out W hS.bel)) ?_
                · (clear hS; go_simp; done)
                try simp only [Act.put, List.setIfInBounds_toArray, List.set_cons_zero, List.set_cons_succ]
                repeat (first
                  | (refine wpSeq_off (by rfl) ?_; try simp only [Act.put, List.setIfInBounds_toArray, List.set_cons_zero, List.set_cons_succ])
                  | (refine wpSeq_val (v := ?_) (by rfl) (fun W hS => ?_) ?_
                     rotate_left
                     · (have fx := hS.facts; simp only [factsOf, cellsOf, Nat.zero_add, Nat.reduceAdd] at fx; have fy0 := E.out W hS.bel; clear hS; go_simp; first | done | with_reducible rfl)
                     try simp only [Act.put, List.setIfInBounds_toArray, List.set_cons_zero, List.set_cons_succ]))
                refine wpSeq_nil (fun W hS => ?_)
                have HX2 := Lib.hid (HX.out _ hS.tail)
                clear hS hJ E AB O2 MU CM HX
                go_wp2_with fail
                go_roundw
                case rel => exact HX2.out
                case measure => simp [intOf]; omega
            · have HX := Lib.hid (HN.out true ⟨fun _ => .inl rfl, fun _ => rfl⟩)
              refine wp_region_in hJ (by kernel_rfl) (by kernel_rfl) ?_
              repeat (first
                | (refine wpSeq_off (by rfl) ?_; try simp only [Act.put, List.setIfInBounds_toArray, List.set_cons_zero, List.set_cons_succ])
                | (refine wpSeq_val (v := ?_) (by rfl) (fun W hS => ?_) ?_
                   rotate_left
                   · (have fx := hS.facts; simp only [factsOf, cellsOf, Nat.zero_add, Nat.reduceAdd] at fx; have fy0 := E.out W hS.bel; clear hS; go_simp; first | done | with_reducible rfl)
                   try simp only [Act.put, List.setIfInBounds_toArray, List.set_cons_zero, List.set_cons_succ]))
              refine wpSeq_nil (fun W hS => ?_)
              have HX2 := Lib.hid (HX.out _ hS.tail)
              clear hS hJ E AB O2 MU CM HX
              go_wp2_with fail
              go_roundw
              case rel => exact HX2.out
              case measure => simp [intOf]; omega
          · obtain rfl : k = L.length := by omega
            have hi1 : ¬ (L.length : Int) < (L.length : Int) := by omega
            obtain rfl : b = lb := Bool.eq_iff_iff.mpr (hbl.trans ((show (∃ (j : Nat) (x : Lk × List P2) (v : Q3), j < L.length ∧ L[j]? = some x ∧ vl[j]? = some v ∧ LateAt x v) ↔ (∃ (j : Nat) (x : Lk × List P2) (v : Q3), L[j]? = some x ∧ vl[j]? = some v ∧ LateAt x v) from ⟨fun ⟨j, x, v, _, h⟩ => ⟨j, x, v, h⟩, fun ⟨j, x, v, h1, h⟩ => ⟨j, x, v, (List.getElem?_eq_some_iff.1 h1).1, h1, h⟩⟩).trans HLB.out.symm))
            clear hbl
            have hI := HI4.out.call hJ.bel
            have HB4x := Lib.hid hJ.bel
            clear hJ
            cases b
            · obtain ⟨rfl, S, hsp, hSn, hSl, hSO⟩ := HNO.out rfl
              subst hSn
              have HSS := Lib.hid (And.intro hSl hSO)
              have HSP4 := Lib.hid hsp
              have hq1 : ((S.length : Int) != (L.length : Int)) = false := by simp [hSl]
              have HI5 := Lib.hid hI
              have hst2 := Lib.hid (show LsRel wp L.length (.int .i64 0) wp from ⟨0, Nat.zero_le _, rfl, In.start wp⟩)
              have HB4 := Lib.hid HB4x.out
              have fx := hI.facts
              simp only [factsOf, cellsOf, Nat.zero_add, Nat.reduceAdd] at fx
              clear hI hsp hSl hSO
              go_wp2_with fail
              clear fx
              go_loopw [166] (fun i wr => LsRel wp L.length i wr) (fun i _ => L.length - (intOf i).toNat)
              case atStart => exact hst2.out
              case round =>
                as_aux_lemma =>
                clear hst2
                obtain ⟨k, hk, rfl, hJ⟩ := hrel
                obtain ⟨wq, rfl⟩ : ∃ wq, wq = wr := ⟨_, rfl⟩
                by_cases hin : k < L.length
                · have hi1 : (k : Int) < (L.length : Int) := by omega
                  have hi2 : 0 ≤ (k : Int) ∧ (k : Int) < (L.length : Int) := by omega
                  have hiq : 0 ≤ (k : Int) ∧ (k : Int) < (ql.length : Int) := by rw [HQL.out]; omega
                  have hiv : 0 ≤ (k : Int) ∧ (k : Int) < (vl.length : Int) := by rw [HVL.out]; omega
                  have hiq2 : 0 ≤ (k : Int) ∧ (k : Int) < (qs.length : Int) := by rw [HTO.out.1, HQL.out]; omega
                  have hiv2 : 0 ≤ (k : Int) ∧ (k : Int) < (vs.length : Int) := by rw [HTO.out.2.1, HVL.out]; omega
                  have his : 0 ≤ (k : Int) ∧ (k : Int) < (S.length : Int) := by rw [HSS.out.1]; omega
                  obtain ⟨⟨⟨klen, klow, khigh, kspeed, kbrake, kshape⟩, pts⟩, ha⟩ : ∃ x, L[k]? = some x := ⟨_, List.getElem?_eq_getElem hin⟩
                  obtain ⟨q, hq⟩ : ∃ q, ql[k]? = some q := ⟨_, List.getElem?_eq_getElem (by rw [HQL.out]; exact hin)⟩
                  obtain ⟨v, hv⟩ : ∃ v, vl[k]? = some v := ⟨_, List.getElem?_eq_getElem (by rw [HVL.out]; exact hin)⟩
                  obtain ⟨q', hq'⟩ : ∃ q, qs[k]? = some q := ⟨_, List.getElem?_eq_getElem (by omega)⟩
                  obtain ⟨v', hv'⟩ : ∃ v, vs[k]? = some v := ⟨_, List.getElem?_eq_getElem (by omega)⟩
                  obtain ⟨⟨sx, sy⟩, hs⟩ : ∃ s, S[k]? = some s := ⟨_, List.getElem?_eq_getElem (by omega)⟩
                  obtain ⟨A5, n5, c5, hk5, _⟩ := HSH.out _ (List.mem_of_getElem? ha)
                  obtain rfl : kshape = .slice A5 n5 c5 := hk5
                  obtain ⟨b9, o, hAe, hbB, hlc⟩ := Rd.lnk HRD.out (i := k) (k := ⟨klen, klow, khigh, kspeed, kbrake, .slice A5 n5 c5⟩) (by
                    show (L.map (·.1))[k]? = _
                    rw [HKS.out, ha]; rfl)
                  have hIq := HI5.out.call hJ.bel
                  have hbw := hIq.bel
                  have hlc := hlc.below hbw hbB
                  have hbn : b9 < wq.heap.size := Nat.lt_of_lt_of_le hbB hbw.size
                  obtain ⟨f0, f1, f2, f3, f4, f5, f6, f7, f8, f9, f10, f11, f12, f13, f14, f15⟩ := hlc
                  subst hAe
                  have HTq := Lib.hid (tabs w HT.out hbw)
                  have lb : kbrake.le 1048576 := (HLK.out _ (List.mem_of_getElem? ha)).2.2.2.2
                  have hbr : 0 < kbrake.q := (HGL.out _ (List.mem_of_getElem? ha)).2.2.2.2
                  have lq : q.le 1048576 := HLQ.out q (List.mem_of_getElem? hq)
                  have lv : v.le 1048576 := HLV.out v (List.mem_of_getElem? hv)
                  obtain ⟨z, qz1, cz, lz, GQ⟩ := goodR wq HTq.out q lq
                  obtain ⟨zv, qzv, czv, lzv, GV⟩ := goodR wq HTq.out v lv
                  obtain ⟨n, t1, a1, a2, ⟨cx, cy⟩, lsx, lsy⟩ := HSS.out.2.2 k _ _ q v hs ha hq hv
                  have t1 : TicksIs kbrake.q v.q n 0 := t1
                  have a1 : sx.q = minQ q.q (q.q + wayQ kbrake.q v.q n) := a1
                  have a2 : sy.q = maxQ q.q (q.q + wayQ kbrake.q v.q n) := a2
                  obtain ⟨d1, d2, d3, d4, _⟩ := HTO.out.2.2.1 k _ q v q' v' hin ha hq hv hq' hv'
                  have d1 : v'.q = slowQ kbrake.q v.q := d1
                  have HT1 := Lib.hid t1
                  have HA12 := Lib.hid (And.intro a1 a2)
                  have HD := Lib.hid (And.intro d1 d2)
                  obtain ⟨z0, qz0, cz0, _, O0⟩ := ofR wq HTq.out 0
                  have HZ0 := Lib.hid (show z0.q = 0 from qz0)
                  -- rows
                  obtain ⟨bq2, oq, hAq, hbq, x0, x1, x2⟩ := Rd.quot HRQ.out hq
                  obtain ⟨bv2, ov, hAv, hbv, y0, y1, y2⟩ := Rd.quot HRV.out hv
                  obtain ⟨_, _, _, he1, _, _, _, hr1⟩ := HSP4.out
                  cases he1
                  obtain ⟨bs, os, hAs, hbs, s0, s1, s2, s3, s4, s5⟩ := Rd.pt hr1 hs
                  obtain ⟨_, _, _, he2, _, _, _, hr2⟩ := HSQ2.out
                  cases he2
                  obtain ⟨bq3, oq3, hAq3, hbq3, u0, u1, u2⟩ := Rd.quot hr2 hq'
                  obtain ⟨_, _, _, he3, _, _, _, hr3⟩ := HSV2.out
                  cases he3
                  obtain ⟨bv3, ov3, hAv3, hbv3, t0', t1', t2'⟩ := Rd.quot hr3 hv'
                  subst hAq hAv hAs hAq3 hAv3
                  have hb4q := HB4.out.trans (hJ.bel.mono HB4.out.size)
                  have m0 := hIq.cell (k := 1) (i := 0) rfl rfl
                  have m1 := hIq.cell (k := 1) (i := 1) rfl rfl
                  have m6 := hIq.cell (k := 0) (i := 0) rfl rfl
                  have m7 := hIq.cell (k := 0) (i := 1) rfl rfl
                  have g3l := hIq.lt (k := 1) rfl
                  have g6l := hIq.lt (k := 0) rfl
                  have E1 := Lib.hid (fun W (hW : Below wq.heap.size wq W) => (⟨(hW.cell (p := ⟨w.heap.size + 1, 0, none⟩) g3l).trans m0, ((hbw.trans (hW.mono hbw.size)).cell (p := ⟨bq2, oq + k * 3, none⟩) hbq).trans x0, ((hbw.trans (hW.mono hbw.size)).cell (p := ⟨bq2, oq + k * 3 + 1, none⟩) hbq).trans x1, ((hbw.trans (hW.mono hbw.size)).cell (p := ⟨bq2, oq + k * 3 + 2, none⟩) hbq).trans x2, Nat.lt_of_lt_of_le hbq (hbw.trans (hW.mono hbw.size)).size⟩ : And _ (And _ (And _ (And _ _)))))
                  have E2 := Lib.hid (fun W (hW : Below wq.heap.size wq W) => (⟨(hW.cell (p := ⟨w.heap.size + 1, 1, none⟩) g3l).trans m1, ((hbw.trans (hW.mono hbw.size)).cell (p := ⟨bv2, ov + k * 3, none⟩) hbv).trans y0, ((hbw.trans (hW.mono hbw.size)).cell (p := ⟨bv2, ov + k * 3 + 1, none⟩) hbv).trans y1, ((hbw.trans (hW.mono hbw.size)).cell (p := ⟨bv2, ov + k * 3 + 2, none⟩) hbv).trans y2, Nat.lt_of_lt_of_le hbv (hbw.trans (hW.mono hbw.size)).size⟩ : And _ (And _ (And _ (And _ _)))))
                  have E3 := Lib.hid (fun W (hW : Below wq.heap.size wq W) => (⟨((hb4q.trans (hW.mono hb4q.size)).cell (p := ⟨bs, os + k * 6, none⟩) hbs).trans s0, ((hb4q.trans (hW.mono hb4q.size)).cell (p := ⟨bs, os + k * 6 + 1, none⟩) hbs).trans s1, ((hb4q.trans (hW.mono hb4q.size)).cell (p := ⟨bs, os + k * 6 + 2, none⟩) hbs).trans s2, ((hb4q.trans (hW.mono hb4q.size)).cell (p := ⟨bs, os + k * 6 + 3, none⟩) hbs).trans s3, ((hb4q.trans (hW.mono hb4q.size)).cell (p := ⟨bs, os + k * 6 + 4, none⟩) hbs).trans s4, ((hb4q.trans (hW.mono hb4q.size)).cell (p := ⟨bs, os + k * 6 + 5, none⟩) hbs).trans s5, Nat.lt_of_lt_of_le hbs (hb4q.trans (hW.mono hb4q.size)).size⟩ : And _ (And _ (And _ (And _ (And _ (And _ _)))))))
                  have E4 := Lib.hid (fun W (hW : Below wq.heap.size wq W) => (⟨(hW.cell (p := ⟨g6, 0, none⟩) g6l).trans m6, (hW.cell (p := ⟨g6, 1, none⟩) g6l).trans m7, ((hb4q.trans (hW.mono hb4q.size)).cell (p := ⟨bq3, oq3 + k * 3, none⟩) hbq3).trans u0, ((hb4q.trans (hW.mono hb4q.size)).cell (p := ⟨bq3, oq3 + k * 3 + 1, none⟩) hbq3).trans u1, ((hb4q.trans (hW.mono hb4q.size)).cell (p := ⟨bq3, oq3 + k * 3 + 2, none⟩) hbq3).trans u2, ((hb4q.trans (hW.mono hb4q.size)).cell (p := ⟨bv3, ov3 + k * 3, none⟩) hbv3).trans t0', ((hb4q.trans (hW.mono hb4q.size)).cell (p := ⟨bv3, ov3 + k * 3 + 1, none⟩) hbv3).trans t1', ((hb4q.trans (hW.mono hb4q.size)).cell (p := ⟨bv3, ov3 + k * 3 + 2, none⟩) hbv3).trans t2', Nat.lt_of_lt_of_le hbq3 (hb4q.trans (hW.mono hb4q.size)).size, Nat.lt_of_lt_of_le hbv3 (hb4q.trans (hW.mono hb4q.size)).size⟩ : And _ (And _ (And _ (And _ (And _ (And _ (And _ (And _ (And _ _))))))))))
                  have hwk : IntKind.i64.wrap ((k : Int) + 1) = (k : Int) + 1 := by rw [IntKind.wrap_i64]; omega
                  have HJ := Lib.hid hJ
                  have HN := Lib.hid (show ∀ W, Below wq.heap.size wq W → LsRel wp L.length (.int .i64 ((k : Int) + 1)) W from fun W hW => ⟨k + 1, hin, by simp, HJ.out.call hW⟩)
                  have HC := Lib.hid (And.intro (And.intro cz czv) (And.intro (And.intro cx cy) (And.intro d3 d4)))
                  have HL := Lib.hid (And.intro hbr (And.intro lb (And.intro lz lzv)))
                  have HQZ := Lib.hid (And.intro qz1 qzv)
                  clear hJ hIq hbw hb4q m0 m1 m6 m7 g3l g6l x0 x1 x2 y0 y1 y2 s0 s1 s2 s3 s4 s5 u0 u1 u2 t0' t1' t2' hbq hbv hbs hbq3 hbv3 hr1 hr2 hr3 ha hq hv hq' hv' hs lb hbr lq lv cz czv lz lzv t1 a1 a2 cx cy lsx lsy d1 d2 d3 d4 qz1 qzv qz0
                  have hJ := (In.start wq).alloc 28 #[.bool klen.neg, .string klen.num, .string klen.den, .bool klow.neg, .string klow.num, .string klow.den, .bool khigh.neg, .string khigh.num, .string khigh.den, .bool kspeed.neg, .string kspeed.num, .string kspeed.den, .bool kbrake.neg, .string kbrake.num, .string kbrake.den, .slice A5 n5 c5]
                  obtain ⟨g14, hg14⟩ : ∃ g, g = wq.heap.size := ⟨_, rfl⟩
                  go_upto_region 25 with (fail)
                  clear f0 f1 f2 f3 f4 f5 f6 f7 f8 f9 f10 f11 f12 f13 f14 f15 hbn hbB
                  rw [← hg14] at hJ ⊢
                  generalize World.alloc _ _ = W5 at hJ ⊢
                  clear hg14
                  have fq := E1.out W5 hJ.bel
                  go_wp2_with fail
                  refine (GQ.out _ hJ.bel).mono ?_
                  rintro e wn ⟨rfl, hb⟩
                  replace hJ := hJ.call hb
                  clear hb
                  clear fq
                  replace hJ := hJ.alloc 25 #[.bool z.neg, .string z.num, .string z.den]
                  obtain ⟨g15, hg15⟩ : ∃ g, g = wn.heap.size := ⟨_, rfl⟩
                  go_upto_region 26 with (fail)
                  rw [← hg15] at hJ ⊢
                  generalize World.alloc _ _ = W6 at hJ ⊢
                  clear hg15
                  have HPC := Lib.hid (show ∀ W, In wq [(g15, 25, #[.bool z.neg, .string z.num, .string z.den]), (g14, 28, #[.bool klen.neg, .string klen.num, .string klen.den, .bool klow.neg, .string klow.num, .string klow.den, .bool khigh.neg, .string khigh.num, .string khigh.den, .bool kspeed.neg, .string kspeed.num, .string kspeed.den, .bool kbrake.neg, .string kbrake.num, .string kbrake.den, .slice A5 n5 c5])] W → Calls Tryd.prog 48 #[.agg #[.bool kbrake.neg, .string kbrake.num, .string kbrake.den], .agg #[.bool z.neg, .string z.num, .string z.den], .agg #[.bool zv.neg, .string zv.num, .string zv.den], .int .i64 2000] W (fun e w'' => ∃ x : Value × Nat × Bool × Nat, e = .returned (Value.tuple #[x.1, .bool x.2.2.1]) ∧ PtT wq [(g15, 25, #[.bool z.neg, .string z.num, .string z.den]), (g14, 28, #[.bool klen.neg, .string klen.num, .string klen.den, .bool klow.neg, .string klow.num, .string klow.den, .bool khigh.neg, .string khigh.num, .string khigh.den, .bool kspeed.neg, .string kspeed.num, .string kspeed.den, .bool kbrake.neg, .string kbrake.num, .string kbrake.den, .slice A5 n5 c5])] kbrake.q q.q v.q x w'') from fun W hW => by
                    refine (path_any W kbrake z zv (N := 1048585) (M := 1048576) HC.out.1.1 HL.out.2.1 HL.out.2.2.1 HL.out.2.2.2 HL.out.1 (by decide) (tabs wq HTq.out hW.bel)).mono ?_
                    rintro e w' ⟨p, mm, dd, rfl, hd, hE, ho, hb⟩
                    rw [HQZ.out.2] at hE ho
                    rw [HQZ.out.1] at ho
                    exact ⟨⟨p, mm, dd, w'.heap.size⟩, rfl, hE, hW.call hb, Nat.le_refl _, SlQ.own ho⟩)
                  go_cut [16] (fun p wx => ∃ (mm B : Nat), PathEnd kbrake.q v.q mm ∧ In wq [(g15, 25, #[.bool z.neg, .string z.num, .string z.den]), (g14, 28, #[.bool klen.neg, .string klen.num, .string klen.den, .bool klow.neg, .string klow.num, .string klow.den, .bool khigh.neg, .string khigh.num, .string khigh.den, .bool kspeed.neg, .string kspeed.num, .string kspeed.den, .bool kbrake.neg, .string kbrake.num, .string kbrake.den, .slice A5 n5 c5])] wx ∧ B ≤ wx.heap.size ∧ SlQ wx B p ((pathL kbrake.q q.q v.q mm).map toQ3))
                  case first =>
                    as_aux_lemma =>
                    refine wp_region_in_mid 9 (fun x : Value × Nat × Bool × Nat => Value.tuple #[x.1, .bool x.2.2.1]) (PtT wq [(g15, 25, #[.bool z.neg, .string z.num, .string z.den]), (g14, 28, #[.bool klen.neg, .string klen.num, .string klen.den, .bool klow.neg, .string klow.num, .string klow.den, .bool khigh.neg, .string khigh.num, .string khigh.den, .bool kspeed.neg, .string kspeed.num, .string kspeed.den, .bool kbrake.neg, .string kbrake.num, .string kbrake.den, .slice A5 n5 c5])] kbrake.q q.q v.q) (PtT.lasts _ _ _ _ _) _ hJ (by kernel_rfl) (by kernel_rfl) rfl ?_
                    simp only [List.take_succ_cons, List.take_zero, List.drop_succ_cons, List.drop_zero]
                    repeat (first
                      | (refine wpSeq_off (by rfl) ?_; try simp only [Act.put, List.setIfInBounds_toArray, List.set_cons_zero, List.set_cons_succ])
                      | (refine wpSeq_val (v := ?_) (by rfl) (fun W hS => ?_) ?_
                         rotate_left
                         · (have fx := hS.facts; simp only [factsOf, cellsOf, Nat.zero_add, Nat.reduceAdd] at fx; have fy0 := E2.out W hS.bel; clear hS; go_simp; first | done | with_reducible rfl)
                         try simp only [Act.put, List.setIfInBounds_toArray, List.set_cons_zero, List.set_cons_succ]))
                    refine wpSeq_call (v := .agg #[.bool zv.neg, .string zv.num, .string zv.den]) (by rfl) (fun W hS => ?_) (fun W hS => (GV.out W hS.bel)) ?_
                    · (clear hS; go_simp; done)
                    try simp only [Act.put, List.setIfInBounds_toArray, List.set_cons_zero, List.set_cons_succ]
                    repeat (first
                      | (refine wpSeq_off (by rfl) ?_; try simp only [Act.put, List.setIfInBounds_toArray, List.set_cons_zero, List.set_cons_succ])
                      | (refine wpSeq_val (v := ?_) (by rfl) (fun W hS => ?_) ?_
                         rotate_left
                         · (have fx := hS.facts; simp only [factsOf, cellsOf, Nat.zero_add, Nat.reduceAdd] at fx; have fy0 := E2.out W hS.bel; clear hS; go_simp; first | done | with_reducible rfl)
                         try simp only [Act.put, List.setIfInBounds_toArray, List.set_cons_zero, List.set_cons_succ]))
                    refine wpSeq_nil ⟨⟨rfl, fun W hS => ⟨_, _, ?_, HPC.out W hS⟩⟩, fun x => ?_⟩
                    · (clear hS; go_simp; done)
                    obtain ⟨p, mm, dd, B⟩ := x
                    simp only [List.setIfInBounds_toArray, List.set_cons_zero, List.set_cons_succ]
                    repeat (first
                      | (refine wpSeq_off (by rfl) ?_; try simp only [Act.put, List.setIfInBounds_toArray, List.set_cons_zero, List.set_cons_succ])
                      | (refine wpSeq_val (v := ?_) (by rfl) (fun W hS => ?_) ?_
                         rotate_left
                         · (clear hS; go_simp; first | done | with_reducible rfl)
                         try simp only [Act.put, List.setIfInBounds_toArray, List.set_cons_zero, List.set_cons_succ]))
                    refine wpSeq_nil (fun W hS => ?_)
                    go_wp2_with fail
                    go_meet
                    obtain ⟨hE, hI, hB, hsl⟩ := hS
                    exact ⟨mm, B, hE, hI, hB, hsl⟩
                  case rest =>
                    clear hJ HPC GV GQ E1 E2
                    obtain ⟨mm, B, hE, hK, hBx, hsl⟩ := hcut
                    obtain ⟨wx, rfl⟩ : ∃ wx, wx = wc := ⟨_, rfl⟩
                    obtain ⟨Ap, np, Cp, rfl, hpn, _, _, hrd⟩ := hsl
                    rw [List.length_map, pathL_length] at hpn
                    subst hpn
                    have hg : ∀ j, j ≤ mm → ((pathL kbrake.q q.q v.q mm).map toQ3)[j]? = some (toQ3 (pathQ kbrake.q q.q v.q j)) := fun j hj => by rw [List.getElem?_map, pathL_get _ _ _ hj]; rfl
                    obtain ⟨bp, op, rfl, hbp, _⟩ := Rd.quot hrd (hg 0 (Nat.zero_le _))
                    have HP := Lib.hid (show ∀ j, j ≤ mm → ∀ y, y = toQ3 (pathQ kbrake.q q.q v.q j) → ∀ W, Below wx.heap.size wx W → bp < W.heap.size ∧ W.cell? ⟨bp, op + j * 3, none⟩ = some (.bool y.neg) ∧ W.cell? ⟨bp, op + j * 3 + 1, none⟩ = some (.string y.num) ∧ W.cell? ⟨bp, op + j * 3 + 2, none⟩ = some (.string y.den) from fun j hj y hy W hW => by
                      subst hy
                      obtain ⟨_, _, he, h1, h2, h3, h4⟩ := Rd.quot hrd (hg j hj)
                      cases he
                      have hbx := Nat.lt_of_lt_of_le h1 hBx
                      exact ⟨Nat.lt_of_lt_of_le hbx hW.size, (hW.cell (p := ⟨bp, op + j * 3, none⟩) hbx).trans h2, (hW.cell (p := ⟨bp, op + j * 3 + 1, none⟩) hbx).trans h3, (hW.cell (p := ⟨bp, op + j * 3 + 2, none⟩) hbx).trans h4⟩)
                    have HYL := Lib.hid (show ∀ j, j ≤ 2000 → (toQ3 (pathQ kbrake.q q.q v.q j)).le 5000000000 from fun j hj => by
                      have e1 := HL.out.2.2.1.qz (by decide)
                      have e2 := HL.out.2.2.2.qz (by decide)
                      have e3 := HL.out.2.1.qz (by decide)
                      rw [HQZ.out.1] at e1
                      rw [HQZ.out.2] at e2
                      refine toQ3_le ?_
                      have e4 := pathQ_qz (q := q.q) (v := v.q) HL.out.1 j hj
                      have e5 : j * (qz v.q + qz kbrake.q + 10) ≤ 2000 * (1048585 + 1048576 + 10) := Nat.mul_le_mul hj (by omega)
                      omega)
                    have hm2 : mm ≤ 2000 := hE.1
                    have HE := Lib.hid hE
                    have hW0 := hK.bel
                    replace E3 := up E3 hW0
                    replace O0 := up O0 hW0
                    have HTx := Lib.hid (tabs wq HTq.out hK.bel)
                    have HK := Lib.hid hK
                    have d0 := hK.cell (k := 0) (i := 0) rfl rfl
                    have d1 := hK.cell (k := 0) (i := 1) rfl rfl
                    have d2 := hK.cell (k := 0) (i := 2) rfl rfl
                    have h15 := hK.lt (k := 0) rfl
                    have hI := In.start wx
                    clear hrd hbp hg hE hW0 hK hBx
                    go_upto_region 27 with (fail)
                    refine wp_region_invJ 5 (J2 wx [] z 2 [.agg #[.bool z.neg, .string z.num, .string z.den], .agg #[.bool z.neg, .string z.num, .string z.den]]) (by kernel_rfl) (by kernel_rfl) (J2.start hI.drew) ?_ ?_
                    · as_aux_lemma =>
                      clear hI HP HYL E3 E4 O0 HTx HK HE HN HC HL HQZ
                      intro i op' hi ho us vs' W hJ hsi hdep
                      have hb := hJ.bel
                      have c0 := (hb.cell (p := ⟨g15, 0, none⟩) h15).trans d0
                      have c1 := (hb.cell (p := ⟨g15, 1, none⟩) h15).trans d1
                      have c2 := (hb.cell (p := ⟨g15, 2, none⟩) h15).trans d2
                      clear d0 d1 d2 hb
                      rcases i with _ | _ | _ | _ | _ | i
                      all_goals first | omega | skip
                      all_goals (simp only [List.getElem?_cons_succ, List.getElem?_cons_zero, Option.some.injEq] at ho; subst ho)
                      · refine StepJ.val rfl ?_ (hJ.pure (i := 0) (by omega) rfl)
                        clear hJ hdep
                        unfold lexA
                        simp only [putAll, preI, Nat.reduceLT, Nat.reduceAdd, decide_false, Bool.false_eq_true, if_false]
                        go_simp
                      · refine StepJ.val rfl ?_ (hJ.pure (i := 1) (by omega) rfl)
                        clear hJ hdep
                        unfold lexA
                        simp only [putAll, preI, Nat.reduceLT, Nat.reduceAdd, decide_true, decide_false, Bool.false_eq_true, if_true, if_false, Act.put, List.setIfInBounds_toArray, List.set_cons_zero, List.set_cons_succ]
                        go_simp
                      · refine StepJ.val rfl ?_ (hJ.alloc8 hsi rfl)
                        clear hJ
                        unfold lexA
                        simp only [putAll, preI, Nat.reduceLT, Nat.reduceAdd, decide_true, decide_false, Bool.false_eq_true, if_true, if_false, Act.put, List.setIfInBounds_toArray, List.set_cons_zero, List.set_cons_succ]
                        go_simp
                      · refine StepJ.val rfl ?_ (hJ.alloc9 hsi rfl)
                        clear hJ
                        unfold lexA
                        simp only [putAll, preI, Nat.reduceLT, Nat.reduceAdd, decide_true, decide_false, Bool.false_eq_true, if_true, if_false, Act.put, List.setIfInBounds_toArray, List.set_cons_zero, List.set_cons_succ]
                        go_simp
                      · have a0 : vs' 0 = .agg #[.bool z.neg, .string z.num, .string z.den] := hJ.1 0 _ rfl (hdep ⟨0, .data⟩ (by simp) rfl)
                        obtain ⟨g, a8, hG, hNx⟩ := hJ.at8 (hdep ⟨2, .data⟩ (by simp) rfl) hsi rfl
                        have a8 : vs' 2 = .pointer (some ⟨g, 0, none⟩) := a8
                        refine StepJ.skip rfl ?_ hNx
                        have fx := hG.facts
                        simp only [factsOf, cellsOf, Nat.zero_add, Nat.reduceAdd] at fx
                        have hz := fun i => hG.free (k := 0) (i := i) rfl
                        clear hJ hdep hG hNx
                        unfold lexA
                        simp only [putAll, preI, Nat.reduceLT, Nat.reduceAdd, decide_true, decide_false, Bool.false_eq_true, if_true, if_false, Act.put, List.setIfInBounds_toArray, List.set_cons_zero, List.set_cons_succ]
                        go_simp
                    · intro us vs' W hs hJ
                      have a0 : vs' 0 = .agg #[.bool z.neg, .string z.num, .string z.den] := hJ.1 0 _ rfl (hs 0 (by omega))
                      have a1 : vs' 1 = .agg #[.bool z.neg, .string z.num, .string z.den] := hJ.1 1 _ rfl (hs 1 (by omega))
                      obtain ⟨g18, g19, a2, a3, hK2⟩ := hJ.fin hs
                      have a2 : vs' 2 = .pointer (some ⟨g18, 0, none⟩) := a2
                      have a3 : vs' 3 = .pointer (some ⟨g19, 0, none⟩) := a3
                      unfold lexA
                      simp only [putAll, preI, Nat.reduceLT, Nat.reduceAdd, decide_true, decide_false, Bool.false_eq_true, if_true, if_false, Act.put, List.setIfInBounds_toArray, List.set_cons_zero, List.set_cons_succ, List.drop_succ_cons, List.drop_zero]
                      rw [a0, a1, a2, a3]
                      clear a0 a1 a2 a3 hJ hs hI d0 d1 d2
                      have hS1 := hK2.take (a := [_])
                      have fx := hS1.facts
                      simp only [factsOf, cellsOf, Nat.zero_add, Nat.reduceAdd] at fx
                      have hz := fun i => hS1.free (k := 0) (i := i) rfl
                      have HX2 := Lib.hid (hK2.all3 (a := []) (.bool z.neg) (.string z.num) (.string z.den))
                      clear hS1 hK2
                      go_upto_region 28 with (fail)
                      have hI : In wx [(g19, 25, #[.bool z.neg, .string z.num, .string z.den]), (g18, 25, #[.bool z.neg, .string z.num, .string z.den])] _ := HX2.out
                      clear HX2 fx hz
                      generalize World.setCell _ _ _ = W7 at hI ⊢
                      have hst3 := Lib.hid (show LhRel wx g19 g18 kbrake.q q.q v.q (mm + 1) (.int .i64 0) W7 from ⟨0, z, z, Nat.zero_le _, rfl, ⟨HC.out.1.1, HC.out.1.1⟩, ⟨HL.out.2.2.1.more (by decide), HL.out.2.2.1.more (by decide)⟩, (by
                        have h0 : pathQ kbrake.q q.q v.q (0 - 1) = q.q := rfl
                        rw [h0, HQZ.out.1]
                        unfold minQ maxQ
                        constructor <;> (split <;> rfl)), hI⟩)
                      clear hI
                      go_wp2_with fail
                      go_loopw [194] (fun i wr => LhRel wx g19 g18 kbrake.q q.q v.q (mm + 1) i wr) (fun i _ => mm + 1 - (intOf i).toNat)
                      case atStart => exact hst3.out
                      case round =>
                        clear hst3
                        obtain ⟨j, lo, hi, hjn, rfl, hcan, hle2, hval, hJ⟩ := hrel
                        obtain ⟨wr2, rfl⟩ : ∃ wr2, wr2 = wr := ⟨_, rfl⟩
                        by_cases hjm : j < mm + 1
                        · as_aux_lemma =>
                          have hji : (j : Int) < ((mm + 1 : Nat) : Int) := by omega
                          have hji2 : 0 ≤ (j : Int) ∧ (j : Int) < ((mm + 1 : Nat) : Int) := by omega
                          have hji3 : (j : Int) < (mm : Int) + 1 := by omega
                          obtain ⟨y, hy⟩ : ∃ y, y = toQ3 (pathQ kbrake.q q.q v.q j) := ⟨_, rfl⟩
                          have hyq : y.q = pathQ kbrake.q q.q v.q j := by rw [hy]; exact toQ3_q _
                          have ly : y.le 5000000000 := by rw [hy]; exact HYL.out j (by omega)
                          obtain ⟨hbn, c0, c1, c2⟩ := HP.out j (by omega) y hy wr2 hJ.bel
                          obtain ⟨lo2, q1, cl2, l1, MI⟩ := minR wx HTx.out lo y hle2.1 ly
                          obtain ⟨hi2, q2, ch2, l2, MA⟩ := maxR wx HTx.out hi y hle2.2 ly
                          rw [Nat.max_self] at l1 l2
                          have hstp := lh_step (q := q.q) (v := v.q) HL.out.1 j
                          rw [hval.1, hyq, hstp.1] at q1
                          rw [hval.2, hyq, hstp.2] at q2
                          have hwj : IntKind.i64.wrap ((j : Int) + 1) = (j : Int) + 1 := by rw [IntKind.wrap_i64]; omega
                          have HN2 := Lib.hid (show ∀ W, In wx [(g19, 25, #[.bool hi2.neg, .string hi2.num, .string hi2.den]), (g18, 25, #[.bool lo2.neg, .string lo2.num, .string lo2.den])] W → LhRel wx g19 g18 kbrake.q q.q v.q (mm + 1) (.int .i64 ((j : Int) + 1)) W from fun W hW => ⟨j + 1, lo2, hi2, by omega, by simp, ⟨cl2, ch2⟩, ⟨l1, l2⟩, ⟨by rw [Nat.add_sub_cancel]; exact q1, by rw [Nat.add_sub_cancel]; exact q2⟩, hW⟩)
                          clear q1 cl2 l1 q2 ch2 l2 hy hyq ly hstp hcan hle2 hval
                          have hK3 := hJ.alloc 25 #[.bool y.neg, .string y.num, .string y.den]
                          go_upto_region 31 with (fail)
                          obtain ⟨gx, hgx⟩ : ∃ gx, gx = wr2.heap.size := ⟨_, rfl⟩
                          rw [← hgx] at hK3 ⊢
                          generalize World.alloc _ _ = W8 at hK3 ⊢
                          clear hgx hJ c0 c1 c2 hbn
                          refine wp_region_in_tail 6 hK3 (by kernel_rfl) (by kernel_rfl) ?_
                          simp only [List.take_succ_cons, List.take_zero, List.drop_succ_cons, List.drop_zero]
                          repeat (first
                            | (refine wpSeq_off (by rfl) ?_; try simp only [Act.put, List.setIfInBounds_toArray, List.set_cons_zero, List.set_cons_succ])
                            | (refine wpSeq_val (v := ?_) (by rfl) (fun W hS => ?_) ?_
                               rotate_left
                               · (have fx := hS.facts; simp only [factsOf, cellsOf, Nat.zero_add, Nat.reduceAdd] at fx; clear hS; go_simp; first | done | with_reducible rfl)
                               try simp only [Act.put, List.setIfInBounds_toArray, List.set_cons_zero, List.set_cons_succ]))
                          refine wpSeq_call (v := .agg #[.bool lo2.neg, .string lo2.num, .string lo2.den]) (by rfl) (fun W hS => ?_) (fun W hS => (MI.out W hS.bel)) ?_
                          · (clear hS; go_simp; done)
                          try simp only [Act.put, List.setIfInBounds_toArray, List.set_cons_zero, List.set_cons_succ]
                          repeat (first
                            | (refine wpSeq_off (by rfl) ?_; try simp only [Act.put, List.setIfInBounds_toArray, List.set_cons_zero, List.set_cons_succ])
                            | (refine wpSeq_val (v := ?_) (by rfl) (fun W hS => ?_) ?_
                               rotate_left
                               · (have fx := hS.facts; simp only [factsOf, cellsOf, Nat.zero_add, Nat.reduceAdd] at fx; clear hS; go_simp; first | done | with_reducible rfl)
                               try simp only [Act.put, List.setIfInBounds_toArray, List.set_cons_zero, List.set_cons_succ]))
                          refine wpSeq_call (v := .agg #[.bool hi2.neg, .string hi2.num, .string hi2.den]) (by rfl) (fun W hS => ?_) (fun W hS => (MA.out W hS.bel)) ?_
                          · (clear hS; go_simp; done)
                          try simp only [Act.put, List.setIfInBounds_toArray, List.set_cons_zero, List.set_cons_succ]
                          repeat (first
                            | (refine wpSeq_off (by rfl) ?_; try simp only [Act.put, List.setIfInBounds_toArray, List.set_cons_zero, List.set_cons_succ])
                            | (refine wpSeq_val (v := ?_) (by rfl) (fun W hS => ?_) ?_
                               rotate_left
                               · (have fx := hS.facts; simp only [factsOf, cellsOf, Nat.zero_add, Nat.reduceAdd] at fx; clear hS; go_simp; first | done | with_reducible rfl)
                               try simp only [Act.put, List.setIfInBounds_toArray, List.set_cons_zero, List.set_cons_succ]))
                          refine wpSeq_nil (fun W hS => ?_)
                          have hne : g18 ≠ g19 := fun h => by
                            have := hS.apart
                            simp only [List.map_cons, List.nodup_cons, List.mem_cons, not_or] at this
                            exact this.2.1.1 h.symm
                          have fx := hS.facts
                          simp only [factsOf, cellsOf, Nat.zero_add, Nat.reduceAdd] at fx
                          have hz1 := fun i => hS.free (k := 1) (i := i) rfl
                          have hz2 := fun i => hS.free (k := 2) (i := i) rfl
                          have HX3 := Lib.hid (HN2.out _ (In.tail (In.all3 (a := [_]) (In.all3 (a := [_, _]) hS (.bool lo2.neg) (.string lo2.num) (.string lo2.den)) (.bool hi2.neg) (.string hi2.num) (.string hi2.den))))
                          clear hS hK3 HN2 MI MA
                          go_wp2_with fail
                          go_roundw
                          case rel => exact HX3.out
                          case measure => simp [intOf]; omega
                        · obtain rfl : j = mm + 1 := by omega
                          have hji : ¬ ((mm + 1 : Nat) : Int) < ((mm + 1 : Nat) : Int) := by omega
                          have hji3 : ¬ (mm : Int) + 1 < (mm : Int) + 1 := by omega
                          rw [Nat.add_sub_cancel] at hval
                          obtain ⟨hnm, _⟩ := path_ticks HT1.out HE.out
                          have hwy := wayQ_path (q := q.q) HT1.out hnm
                          rw [hwy] at hval
                          obtain rfl : lo = sx := hcan.1.eq HC.out.2.1.1 (by rw [hval.1, HA12.out.1])
                          obtain rfl : hi = sy := hcan.2.eq HC.out.2.1.2 (by rw [hval.2, HA12.out.2])
                          clear hval hle2 hcan hwy hnm
                          have gs := guard_span
                          have hns := fun W => neq_span W lo hi
                          go_upto_region 33 with (fail)
                          refine wp_region_in hJ (by kernel_rfl) (by kernel_rfl) ?_
                          iterate 6 (first
                              | (refine wpSeq_off (by rfl) ?_; try simp only [Act.put, List.setIfInBounds_toArray, List.set_cons_zero, List.set_cons_succ])
                              | (refine wpSeq_val (v := ?_) (by rfl) (fun W hS => ?_) ?_
                                 rotate_left
                                 · (have fx := hS.facts; simp only [factsOf, cellsOf, Nat.zero_add, Nat.reduceAdd] at fx; have fy0 := E3.out W hS.bel; clear hS; go_simp; first | done | with_reducible rfl)
                                 try simp only [Act.put, List.setIfInBounds_toArray, List.set_cons_zero, List.set_cons_succ]))
                          refine wpSeq_val (v := .agg #[.bool lo.neg, .string lo.num, .string lo.den, .bool hi.neg, .string hi.num, .string hi.den]) (by rfl) (fun W hS => exec_build2 rfl rfl rfl (build_span W lo hi)) ?_
                          try simp only [Act.put, List.setIfInBounds_toArray, List.set_cons_zero, List.set_cons_succ]
                          repeat (first
                            | (refine wpSeq_off (by rfl) ?_; try simp only [Act.put, List.setIfInBounds_toArray, List.set_cons_zero, List.set_cons_succ])
                            | (refine wpSeq_val (v := ?_) (by rfl) (fun W hS => ?_) ?_
                               rotate_left
                               · (have fx := hS.facts; simp only [factsOf, cellsOf, Nat.zero_add, Nat.reduceAdd] at fx; have fy0 := E3.out W hS.bel; clear hS; go_simp; first | done | with_reducible rfl)
                               try simp only [Act.put, List.setIfInBounds_toArray, List.set_cons_zero, List.set_cons_succ]))
                          refine wpSeq_nil (fun W hS => ?_)
                          clear hJ hns
                          have fx := hS.facts
                          simp only [factsOf, cellsOf, Nat.zero_add, Nat.reduceAdd] at fx
                          go_wp2_with fail
                          refine (O0.out _ hS.bel).mono ?_
                          rintro e wn ⟨rfl, hb⟩
                          replace hS := hS.call hb
                          clear hb
                          clear fx
                          replace hS := hS.alloc 25 #[.bool z0.neg, .string z0.num, .string z0.den]
                          obtain ⟨g22, hg22⟩ : ∃ g, g = wn.heap.size := ⟨_, rfl⟩
                          go_upto_region 36 with (fail)
                          rw [← hg22] at hS ⊢
                          generalize World.alloc _ _ = W9 at hS ⊢
                          clear hg22 E3
                          have hM : In wq [(g22, 25, #[.bool z0.neg, .string z0.num, .string z0.den]), (g19, 25, #[.bool hi.neg, .string hi.num, .string hi.den]), (g18, 25, #[.bool lo.neg, .string lo.num, .string lo.den]), (g15, 25, #[.bool z.neg, .string z.num, .string z.den]), (g14, 28, #[.bool klen.neg, .string klen.num, .string klen.den, .bool klow.neg, .string klow.num, .string klow.den, .bool khigh.neg, .string khigh.num, .string khigh.den, .bool kspeed.neg, .string kspeed.num, .string kspeed.den, .bool kbrake.neg, .string kbrake.num, .string kbrake.den, .slice A5 n5 c5])] W9 := In.join HK.out hS
                          have HM := Lib.hid hM
                          have HBx9 := Lib.hid hS.bel
                          have ge := guard_quot
                          clear hM
                          go_upto_if 216 with (fail)
                          go_cut [] (fun wy => ∃ (xa xb : Q3), xa = q' ∧ xb = v' ∧ In wq [(g22, 25, #[.bool xb.neg, .string xb.num, .string xb.den]), (g19, 25, #[.bool hi.neg, .string hi.num, .string hi.den]), (g18, 25, #[.bool lo.neg, .string lo.num, .string lo.den]), (g15, 25, #[.bool xa.neg, .string xa.num, .string xa.den]), (g14, 28, #[.bool klen.neg, .string klen.num, .string klen.den, .bool klow.neg, .string klow.num, .string klow.den, .bool khigh.neg, .string khigh.num, .string khigh.den, .bool kspeed.neg, .string kspeed.num, .string kspeed.den, .bool kbrake.neg, .string kbrake.num, .string kbrake.den, .slice A5 n5 c5])] wy)
                          case first =>
                            as_aux_lemma =>
                            by_cases hmm : mm = 0
                            · subst hmm
                              have hv0 : v.q = 0 := HE.out.2.2 (by omega)
                              have hsl : slowQ kbrake.q v.q = 0 := slow_zero HL.out.1 hv0
                              have hz1 : z0 = v' := cz0.eq HC.out.2.2.1 (by rw [HZ0.out, HD.out.1, hsl])
                              have hz2 : z = q' := HC.out.1.1.eq HC.out.2.2.2 (by rw [HQZ.out.1, HD.out.2, HD.out.1, hsl, Rat.add_zero])
                              have HZZ := Lib.hid (And.intro hz2 hz1)
                              clear hv0 hsl hz1 hz2 hS
                              go_wp2_with fail
                              go_meet
                              exact ⟨z, z0, HZZ.out.1, HZZ.out.2, HM.out⟩
                            · have hm1 : 1 ≤ mm := by omega
                              have hgt : ((mm + 1 : Nat) : Int) > 1 := by omega
                              have hgt2 : (mm : Int) + 1 > 1 := by omega
                              have hgt3 : 1 < (mm : Int) + 1 := by omega
                              have hgt4 : 0 < (mm : Int) + 1 := by omega
                              have hgt5 : 0 < (mm : Int) := by omega
                              obtain ⟨y0, hy0⟩ : ∃ y, y = toQ3 (pathQ kbrake.q q.q v.q 0) := ⟨_, rfl⟩
                              have hy0q : y0.q = q.q := by rw [hy0]; exact toQ3_q _
                              have hsl : slowQ kbrake.q v.q = pathV kbrake.q v.q 1 := slow_path HL.out.1
                              have hy1 : q' = toQ3 (pathQ kbrake.q q.q v.q 1) := by
                                have h1 : q' = toQ3 q'.q := HC.out.2.2.2
                                rw [h1, HD.out.2, HD.out.1, hsl]
                                rfl
                              have ly0 : y0.le 5000000000 := by rw [hy0]; exact HYL.out 0 (by omega)
                              have ly1 : q'.le 5000000000 := by rw [hy1]; exact HYL.out 1 (by omega)
                              have HT9 := tabs wx HTx.out HBx9.out
                              obtain ⟨zs, qzs, czs, _, SU⟩ := subR W9 HT9 q' y0 ly1 ly0
                              obtain rfl : zs = v' := czs.eq HC.out.2.2.1 (by rw [qzs, hy0q, HD.out.2]; exact add_back _ _)
                              have E5 := Lib.hid (show ∀ W, Below W9.heap.size W9 W → (bp < W.heap.size ∧ W.cell? ⟨bp, op, none⟩ = some (.bool y0.neg) ∧ W.cell? ⟨bp, op + 1, none⟩ = some (.string y0.num) ∧ W.cell? ⟨bp, op + 2, none⟩ = some (.string y0.den)) ∧ (W.cell? ⟨bp, op + 3, none⟩ = some (.bool q'.neg) ∧ W.cell? ⟨bp, op + 3 + 1, none⟩ = some (.string q'.num) ∧ W.cell? ⟨bp, op + 3 + 2, none⟩ = some (.string q'.den)) from fun W hW => by
                                have h1 := HP.out 0 (by omega) y0 hy0 W (HBx9.out.trans (hW.mono HBx9.out.size))
                                have h2 := (HP.out 1 hm1 q' hy1 W (HBx9.out.trans (hW.mono HBx9.out.size))).2
                                rw [Nat.zero_mul, Nat.add_zero] at h1
                                rw [Nat.one_mul] at h2
                                exact ⟨h1, h2⟩)
                              have hI9 := In.start W9
                              clear hy0q hsl hy1 ly0 ly1 HT9 qzs czs hy0 hS hmm hm1
                              go_upto_region 37 with (fail)
                              refine wp_region_in_tail 10 hI9 (by kernel_rfl) (by kernel_rfl) ?_
                              simp only [List.take_succ_cons, List.take_zero, List.drop_succ_cons, List.drop_zero]
                              repeat (first
                                | (refine wpSeq_off (by rfl) ?_; try simp only [Act.put, List.setIfInBounds_toArray, List.set_cons_zero, List.set_cons_succ])
                                | (refine wpSeq_val (v := ?_) (by rfl) (fun W hS => ?_) ?_
                                   rotate_left
                                   · (have fx := hS.facts; simp only [factsOf, cellsOf, Nat.zero_add, Nat.reduceAdd] at fx; have fy0 := E5.out W hS.bel; clear hS; go_simp; first | done | with_reducible rfl)
                                   try simp only [Act.put, List.setIfInBounds_toArray, List.set_cons_zero, List.set_cons_succ]))
                              refine wpSeq_call (v := .agg #[.bool zs.neg, .string zs.num, .string zs.den]) (by rfl) (fun W hS => ?_) (fun W hS => (SU.out W hS.bel)) ?_
                              · (clear hS; go_simp; done)
                              try simp only [Act.put, List.setIfInBounds_toArray, List.set_cons_zero, List.set_cons_succ]
                              repeat (first
                                | (refine wpSeq_off (by rfl) ?_; try simp only [Act.put, List.setIfInBounds_toArray, List.set_cons_zero, List.set_cons_succ])
                                | (refine wpSeq_val (v := ?_) (by rfl) (fun W hS => ?_) ?_
                                   rotate_left
                                   · (have fx := hS.facts; simp only [factsOf, cellsOf, Nat.zero_add, Nat.reduceAdd] at fx; have fy0 := E5.out W hS.bel; clear hS; go_simp; first | done | with_reducible rfl)
                                   try simp only [Act.put, List.setIfInBounds_toArray, List.set_cons_zero, List.set_cons_succ]))
                              refine wpSeq_nil (fun W hS => ?_)
                              have hM2 := HM.out.call hS.bel
                              clear hS hI9
                              have hne : g15 ≠ g22 := fun h => by
                                have := hM2.apart
                                simp only [List.map_cons, List.nodup_cons, List.mem_cons, not_or] at this
                                exact this.1.2.2.1 h.symm
                              have fx := hM2.facts
                              simp only [factsOf, cellsOf, Nat.zero_add, Nat.reduceAdd] at fx
                              have hz1 := fun i => hM2.free (k := 3) (i := i) rfl
                              have hz2 := fun i => hM2.free (k := 0) (i := i) rfl
                              have HX9 := Lib.hid (In.all3 (a := []) (In.all3 (a := [_, _, _]) hM2 (.bool q'.neg) (.string q'.num) (.string q'.den)) (.bool zs.neg) (.string zs.num) (.string zs.den))
                              clear hM2
                              go_wp2_with fail
                              go_meet
                              exact ⟨q', zs, rfl, rfl, HX9.out⟩
                          case rest =>
                            clear hS
                            obtain ⟨xa, xb, hxa, hxb, hM⟩ := hcut
                            subst hxa hxb
                            have hn5 := fun W => neq_quot W xa
                            have hn6 := fun W => neq_quot W xb
                            go_upto_region 38 with (fail)
                            refine wp_region_in hM (by kernel_rfl) (by kernel_rfl) ?_
                            repeat (first
                              | (refine wpSeq_off (by rfl) ?_; try simp only [Act.put, List.setIfInBounds_toArray, List.set_cons_zero, List.set_cons_succ])
                              | (refine wpSeq_val (v := ?_) (by rfl) (fun W hS => ?_) ?_
                                 rotate_left
                                 · (have fx := hS.facts; simp only [factsOf, cellsOf, Nat.zero_add, Nat.reduceAdd] at fx; have fy0 := E4.out W hS.bel; clear hS; go_simp; first | done | with_reducible rfl)
                                 try simp only [Act.put, List.setIfInBounds_toArray, List.set_cons_zero, List.set_cons_succ]))
                            refine wpSeq_nil (fun W hS => ?_)
                            have HX9 := Lib.hid (HN.out _ hS.bel)
                            clear hS hM E4
                            go_wp2_with fail
                            go_roundw
                            case rel => exact HX9.out
                            case measure => simp [intOf]; omega
                · obtain rfl : k = L.length := by omega
                  have hi1 : ¬ (L.length : Int) < (L.length : Int) := by omega
                  have hfin := (HI5.out.call hJ.bel).bel
                  clear hJ
                  go_wp2
                  go_ret
                  exact ⟨rfl, hfin⟩
            · obtain ⟨rfl, rfl, rfl, rfl⟩ := HYES.out rfl
              have hfin := hI.bel
              clear hI
              go_wp2
              go_ret
              exact ⟨rfl, hfin⟩
      · as_aux_lemma =>
        have hF : FitsE ar ql.length vl.length 1 ∧ (1 : Int) ≠ 0 := ⟨⟨0, hAE, .inr (.inl ⟨rfl, .inr (by rw [HLL.out]; exact hlv), rfl⟩)⟩, by decide⟩
        have hn1 : ((ql.length : Int) != (L.length : Int)) = false := by simp [hlq]
        have hn2 : ((vl.length : Int) != (L.length : Int)) = true := by simp; omega
        clear hlq hlv
        have HF := Lib.hid hF
        have fx := hI.facts
        simp only [factsOf, cellsOf, Nat.zero_add, Nat.reduceAdd] at fx
        clear hF hAE
        go_wp2_with fail
        refine (HBK.out _ hI.bel).mono ?_
        rintro e w3 hp
        obtain ⟨rfl, hb⟩ := brake_bad HF.out.1 HF.out.2 hp
        replace hI := (hI.call hb).alloc 61 #[.slice none 0 0, .slice none 0 0, .bool false, .int .i64 0]
        obtain ⟨g6, hg6⟩ : ∃ g, g = w3.heap.size := ⟨_, rfl⟩
        clear hb hp fx
        go_upto_region 7 with (fail)
        rw [← hg6] at hI ⊢
        generalize World.alloc _ _ = W3 at hI ⊢
        clear hg6
        have fx := hI.facts
        simp only [factsOf, cellsOf, Nat.zero_add, Nat.reduceAdd] at fx
        go_wp2_with fail
        refine (HSP.out _ hI.bel).mono ?_
        rintro e w4 hp
        obtain ⟨rfl, hb⟩ := spans_bad HF.out.1 HF.out.2 hp
        replace hI := hI.call hb
        clear hb hp fx
        have fx := hI.facts
        simp only [factsOf, cellsOf, Nat.zero_add, Nat.reduceAdd] at fx
        have hfin := hI.bel
        clear hI
        go_wp2
        go_ret
        exact ⟨rfl, hfin⟩
    · as_aux_lemma =>
      have hF : FitsE ar ql.length vl.length 1 ∧ (1 : Int) ≠ 0 := ⟨⟨0, hAE, .inr (.inl ⟨rfl, .inl (by rw [HLL.out]; exact hlq), rfl⟩)⟩, by decide⟩
      have hn1 : ((ql.length : Int) != (L.length : Int)) = true := by simp; omega
      clear hlq
      have HF := Lib.hid hF
      have fx := hI.facts
      simp only [factsOf, cellsOf, Nat.zero_add, Nat.reduceAdd] at fx
      clear hF hAE
      go_wp2_with fail
      refine (HBK.out _ hI.bel).mono ?_
      rintro e w3 hp
      obtain ⟨rfl, hb⟩ := brake_bad HF.out.1 HF.out.2 hp
      replace hI := (hI.call hb).alloc 61 #[.slice none 0 0, .slice none 0 0, .bool false, .int .i64 0]
      obtain ⟨g6, hg6⟩ : ∃ g, g = w3.heap.size := ⟨_, rfl⟩
      clear hb hp fx
      go_upto_region 7 with (fail)
      rw [← hg6] at hI ⊢
      generalize World.alloc _ _ = W3 at hI ⊢
      clear hg6
      have fx := hI.facts
      simp only [factsOf, cellsOf, Nat.zero_add, Nat.reduceAdd] at fx
      go_wp2_with fail
      refine (HSP.out _ hI.bel).mono ?_
      rintro e w4 hp
      obtain ⟨rfl, hb⟩ := spans_bad HF.out.1 HF.out.2 hp
      replace hI := hI.call hb
      clear hb hp fx
      have fx := hI.facts
      simp only [factsOf, cellsOf, Nat.zero_add, Nat.reduceAdd] at fx
      have hfin := hI.bel
      clear hI
      go_wp2
      go_ret
      exact ⟨rfl, hfin⟩
  · as_aux_lemma =>
    have hF : FitsE ar ql.length vl.length c ∧ c ≠ 0 := ⟨⟨c, hAE, .inl ⟨hc, rfl⟩⟩, hc⟩
    have hn1 : (c == 0) = false := by simp [hc]
    have hn2 : (c != 0) = true := by simp [hc]
    clear hc
    have HF := Lib.hid hF
    have fx := hI.facts
    simp only [factsOf, cellsOf, Nat.zero_add, Nat.reduceAdd] at fx
    clear hF hAE
    go_wp2_with fail
    refine (HBK.out _ hI.bel).mono ?_
    rintro e w3 hp
    obtain ⟨rfl, hb⟩ := brake_bad HF.out.1 HF.out.2 hp
    replace hI := (hI.call hb).alloc 61 #[.slice none 0 0, .slice none 0 0, .bool false, .int .i64 0]
    obtain ⟨g6, hg6⟩ : ∃ g, g = w3.heap.size := ⟨_, rfl⟩
    clear hb hp fx
    go_upto_region 7 with (fail)
    rw [← hg6] at hI ⊢
    generalize World.alloc _ _ = W3 at hI ⊢
    clear hg6
    have fx := hI.facts
    simp only [factsOf, cellsOf, Nat.zero_add, Nat.reduceAdd] at fx
    go_wp2_with fail
    refine (HSP.out _ hI.bel).mono ?_
    rintro e w4 hp
    obtain ⟨rfl, hb⟩ := spans_bad HF.out.1 HF.out.2 hp
    replace hI := hI.call hb
    clear hb hp fx
    have fx := hI.facts
    simp only [factsOf, cellsOf, Nat.zero_add, Nat.reduceAdd] at fx
    have hfin := hI.bel
    clear hI
    go_wp2
    go_ret
    exact ⟨rfl, hfin⟩
end Go.Proofs.YtnnbnecpcppkdaaDoor.stopSpans
