/- gantmake.Conf. Conditions: those typed. -/
import Derived.Test.YtnnbnecpcppkdaaDoorConf
namespace Go.Proofs.YtnnbnecpcppkdaaDoor
open Go.RowKit Go.Gy
set_option linter.unusedVariables false
def ConfMk (w : World) (L : List (Lk × List P2)) (e : Ending) (w' : World) : Prop := ∃ (v : Value) (qs : List Q3) (lo : Nat), e = .returned v ∧ qs.length = L.length ∧ QsIn L qs ∧ w.heap.size ≤ lo ∧ w'.ownsRow lo 25 3 v qs.length (qs.flatMap encQ) ∧ Below w.heap.size w w'
set_option maxRecDepth 100000 in
set_option maxHeartbeats 4000000 in
theorem confMake (w : World) (a : Ar) (hG : GenAr a) (hA : a.At w w.heap.size) (v : Value) (l : List Int) (hv : SlI w w.heap.size v l) (hl : l.length ≤ 140737488355328) :
    Calls Tryd.prog 39 #[a.val, v] w (ConfMk w a.L) := by
  obtain ⟨A, m, c, rfl, hvr⟩ := id hv
  clear hvr
  have HG := Lib.hid hG
  have HA := Lib.hid hA
  obtain ⟨ar, har⟩ : ∃ ar, ar = a := ⟨_, rfl⟩
  rw [← har] at HG HA ⊢
  obtain ⟨nm, ⟨px, py⟩, hf, t, va, L⟩ := a
  obtain ⟨⟨A9, n9, c9, hva, _⟩, _⟩ := hA
  obtain rfl : va = .slice A9 n9 c9 := hva
  have hval : ar.val = .agg #[.string nm, .bool px.neg, .string px.num, .string px.den, .bool py.neg, .string py.num, .string py.den, .bool hf, .bool t.neg, .string t.num, .string t.den, .slice A9 n9 c9] := by rw [har]; rfl
  have HV := Lib.hid hval
  rw [hval]
  have hI := (In.start w).alloc 37 #[.string nm, .bool px.neg, .string px.num, .string px.den, .bool py.neg, .string py.num, .string py.den, .bool hf, .bool t.neg, .string t.num, .string t.den, .slice A9 n9 c9]
  have hsz := Lib.hid (World.size_alloc w (.cells #[.string nm, .bool px.neg, .string px.num, .string px.den, .bool py.neg, .string py.num, .string py.den, .bool hf, .bool t.neg, .string t.num, .string t.den, .slice A9 n9 c9] 37))
  clear har hval hG
  go_enter Tryd.func39, Tryd.ntmps39
  go_upto_region 1 with (fail)
  generalize World.alloc _ _ = w1 at hI hsz ⊢
  have hb1 : Below w1.heap.size w1 (w1.alloc (.cells #[.slice A m c] 103)) := (Below.refl _ _).alloc (Nat.le_refl _) _
  have hbe := hI.bel
  have hst : StrAt (w1.alloc (.cells #[.slice A m c] 103)) w.heap.size w1.heap.size := ⟨_, l, Blk.new _ _ _, hv.below (hbe.trans (hb1.mono hbe.size)), hl⟩
  have h0 : InS w w.heap.size w1.heap.size [] (w1.alloc (.cells #[.slice A m c] 103)) := ⟨⟨hbe.trans (hb1.mono hbe.size), by simp, by simp, by simp⟩, hst, by simp⟩
  have HP := Lib.hid (conf_any w _ w.heap.size w1.heap.size ar HG.out HA.out h0 hbe.size hbe.size)
  rw [HV.out] at HP
  have hT := hI
  have fx := hT.facts
  simp only [factsOf, cellsOf, Nat.zero_add, Nat.reduceAdd] at fx
  have hss := Lib.hid (Nat.le_trans hbe.size hb1.size)
  clear hv hl hst h0 hb1 hbe hT HV HG HA
  go_wp2_with fail
  refine HP.out.mono ?_
  rintro e wn ⟨v', qs, lo, rfl, hq, hqs, hlo, hO⟩
  have HX := Lib.hid (show ConfMk w ar.L (.returned v') wn from ⟨v', qs, lo, rfl, hq, hqs, Nat.le_trans hss.out hlo, hO.own, hO.toIn.bel⟩)
  clear hq hqs hlo hO fx HP
  go_wp2
  go_ret
  exact HX.out
end Go.Proofs.YtnnbnecpcppkdaaDoor
