/- zones, and ZoneWalks: the walk. Conditions: those typed. -/
import Derived.Test.YthmgcbpmfipfiaaDoorZoneA
import Derived.Test.YthmgcbpmfipfiaaDoorVec
import Derived.Test.YthmgcbpmfipfiaaDoorReadings
namespace Go.Proofs.YthmgcbpmfipfiaaDoor.zoneWalks
open Go.RowKit Go.Gy
set_option linter.unusedVariables false
theorem wf_i64 {n : Int} (h : wfI .i64 n) : -9223372036854775808 ≤ n ∧ n ≤ 9223372036854775807 := by
  simpa [wfI, Lit.wf, IntKind.min, IntKind.max, IntKind.signed, IntKind.bits] using h
set_option maxRecDepth 100000 in
set_option maxHeartbeats 4000000 in
theorem zones_any (w : World) (hT : TabW w) : Calls Tryd.prog 42 #[] w fun e w' => e = .returned (.bool true) ∧ Below w.heap.size w w' := by
  obtain ⟨z0, q0, _, l0, O0⟩ := ofR w hT 0
  obtain ⟨zh, qh, _, lh, H0⟩ := halfR w hT
  obtain ⟨z2, q2, c2, l2, O2⟩ := ofR w hT 2
  obtain ⟨e, f, g, h, qe, qf, qg, qh', cc, ll, R0⟩ := reachR w hT z0 z0 zh l0 l0 lh 4 (by decide)
  have hg : g.q = z2.q := by
    rw [qg, q0, qh, q2]
    unfold farV
    rw [maxQ_of_nonneg (show (0 : Rat) ≤ 1 / 2 by grind), show ((max (4 : Int) 0 : Int) : Rat) = 4 from rfl, show ((0 : Int) : Rat) = 0 from rfl, show ((2 : Int) : Rat) = 2 from rfl]
    grind
  have hgz : g = z2 := (cc.2.2.1).eq c2 hg
  obtain ⟨cs, _, ps, _, S0⟩ := signR w hT z2 l2
  have hcs : 0 < cs := ps.mpr (by rw [q2]; decide)
  subst hgz
  have hI := In.start w
  clear q0 qh q2 qe qf qg qh' cc ll c2 hg ps hT
  go_enter Tryd.func42, Tryd.ntmps42
  go_wp2_with fail
  refine (O0.out _ hI.bel).mono ?_
  rintro e wn ⟨rfl, hb⟩
  replace hI := hI.call hb
  clear hb
  go_wp2_with fail
  refine (O0.out _ hI.bel).mono ?_
  rintro e wn ⟨rfl, hb⟩
  replace hI := hI.call hb
  clear hb
  go_wp2_with fail
  refine (H0.out _ hI.bel).mono ?_
  rintro e wn ⟨rfl, hb⟩
  replace hI := hI.call hb
  clear hb
  go_wp2_with fail
  refine (R0.out _ hI.bel).mono ?_
  rintro e wn ⟨rfl, hb⟩
  replace hI := hI.call hb
  clear hb
  go_upto_region 2 with (fail)
  replace hI := hI.alloc 64 #[.bool e.neg, .string e.num, .string e.den, .bool f.neg, .string f.num, .string f.den, .bool g.neg, .string g.num, .string g.den, .bool h.neg, .string h.num, .string h.den]
  generalize World.alloc _ _ = W1 at hI ⊢
  refine wp_region_in hI (by kernel_rfl) (by kernel_rfl) ?_
  repeat (first
    | (refine wpSeq_off (by rfl) ?_; try simp only [Act.put, List.setIfInBounds_toArray, List.set_cons_zero, List.set_cons_succ])
    | (refine wpSeq_val (v := ?_) (by rfl) (fun W hS => ?_) ?_
       rotate_left
       · (have fx := hS.facts; simp only [factsOf, cellsOf, Nat.zero_add, Nat.reduceAdd] at fx; clear hS; go_simp; first | done | with_reducible rfl)
       try simp only [Act.put, List.setIfInBounds_toArray, List.set_cons_zero, List.set_cons_succ]))
  refine wpSeq_call (v := .agg #[.bool g.neg, .string g.num, .string g.den]) (by rfl) (fun W hS => ?_) (fun W hS => (O2.out W hS.bel)) ?_
  · (clear hS; go_simp; done)
  try simp only [Act.put, List.setIfInBounds_toArray, List.set_cons_zero, List.set_cons_succ]
  repeat (first
    | (refine wpSeq_off (by rfl) ?_; try simp only [Act.put, List.setIfInBounds_toArray, List.set_cons_zero, List.set_cons_succ])
    | (refine wpSeq_val (v := ?_) (by rfl) (fun W hS => ?_) ?_
       rotate_left
       · (have fx := hS.facts; simp only [factsOf, cellsOf, Nat.zero_add, Nat.reduceAdd] at fx; clear hS; go_simp; first | done | with_reducible rfl)
       try simp only [Act.put, List.setIfInBounds_toArray, List.set_cons_zero, List.set_cons_succ]))
  refine wpSeq_call (v := .int .i64 cs) (by rfl) (fun W hS => ?_) (fun W hS => (S0.out W hS.bel)) ?_
  · (clear hS; go_simp; done)
  try simp only [Act.put, List.setIfInBounds_toArray, List.set_cons_zero, List.set_cons_succ]
  repeat (first
    | (refine wpSeq_off (by rfl) ?_; try simp only [Act.put, List.setIfInBounds_toArray, List.set_cons_zero, List.set_cons_succ])
    | (refine wpSeq_val (v := ?_) (by rfl) (fun W hS => ?_) ?_
       rotate_left
       · (have fx := hS.facts; simp only [factsOf, cellsOf, Nat.zero_add, Nat.reduceAdd] at fx; clear hS; go_simp; first | done | with_reducible rfl)
       try simp only [Act.put, List.setIfInBounds_toArray, List.set_cons_zero, List.set_cons_succ]))
  refine wpSeq_nil (fun W hS => ?_)
  go_wp2
  go_ret
  exact ⟨rfl, hS.bel⟩
theorem unit_mul {f a : Rat} (hf : 0 ≤ f) (h1 : -1 ≤ a) (h2 : a ≤ 1) : -f ≤ f * a ∧ f * a ≤ f := by
  have h3 : 0 ≤ f * (a + 1) := Rat.mul_nonneg hf (by grind)
  have h4 : 0 ≤ f * (1 - a) := Rat.mul_nonneg hf (by grind)
  constructor <;> grind
theorem quarter {m : Int} {a : Rat} (h : a = (m : Rat) / ((4 : Int) : Rat)) (h1 : -4 ≤ m) (h2 : m ≤ 4) : -1 ≤ a ∧ a ≤ 1 := by
  have h3 : ((-4 : Int) : Rat) ≤ (m : Rat) := by exact_mod_cast h1
  have h4 : (m : Rat) ≤ ((4 : Int) : Rat) := by exact_mod_cast h2
  rw [show ((-4 : Int) : Rat) = -4 from rfl] at h3
  rw [show ((4 : Int) : Rat) = 4 from rfl] at h4 h
  constructor <;> grind
def WkRel (w : World) (b7 b8 b9 : Nat) (px py f : Q3) (n : Nat) (i : Value) (wr : World) : Prop :=
  ∃ (k : Nat) (x y : Q3), k ≤ n ∧ i = .int .i64 k ∧ x.le (1 + 18 * k) ∧ y.le (1 + 18 * k) ∧ (px.q - ((k : Int) : Rat) * f.q ≤ x.q ∧ x.q ≤ px.q + ((k : Int) : Rat) * f.q) ∧ (py.q - ((k : Int) : Rat) * f.q ≤ y.q ∧ y.q ≤ py.q + ((k : Int) : Rat) * f.q) ∧
    In w [(b9, 58, #[.bool x.neg, .string x.num, .string x.den, .bool y.neg, .string y.num, .string y.den]), (b8, 27, #[.bool f.neg, .string f.num, .string f.den]), (b7, 58, #[.bool px.neg, .string px.num, .string px.den, .bool py.neg, .string py.num, .string py.den])] wr
set_option maxRecDepth 100000 in
set_option maxHeartbeats 8000000 in
theorem walk (v0 : Value) (a : Int) (v2 : Value) (w : World) {b0 b2 : Nat} (f0 : IntsArg w v0 b0) (wa : wfI .i64 a) (f2 : IntsArg w v2 b2) (hT : TabW w) :
    Calls Tryd.prog 7 #[v0, .int .i64 a, v2] w fun e w' => e = .returned (.bool true) ∧ Below w.heap.size w w' := by
  obtain ⟨r, hl, _, _, hlb⟩ := f0
  obtain ⟨r2, hl2, hi2, _, _⟩ := f2
  have HT := Lib.hid hT
  have HZ := zones_any w hT
  have Hl := Lib.hid hl
  have Hlb := Lib.hid (show r.length ≤ 140737488355328 by unfold reachBytes at hlb; omega)
  have Hi2 := Lib.hid hi2
  have Ha := Lib.hid (wf_i64 wa)
  obtain ⟨A, n, c, rfl, hrn, hnc, hA, hrd⟩ := hl2
  obtain ⟨m, hm⟩ : ∃ m : Nat, m = min n 20 := ⟨_, rfl⟩
  have hmin : min (n : Int) 20 = m := by omega
  have hmc : m ≤ c := by omega
  have hmn : m ≤ n ∧ m ≤ 20 := by omega
  have hto := fun w => ints_to A n c m hmc w
  have Hto := Lib.hid hto
  have Hrd := Lib.hid hrd
  clear hl hlb hi2 wa hT hto hrd hm
  go_enter Tryd.func7, Tryd.ntmps7
  go_wp2_with fail
  refine HZ.mono ?_
  rintro e w1 ⟨rfl, hb1⟩
  go_wp2_with fail
  refine (vec_any w1 v0 r ((Hl.out.below hb1).more hb1.size) Hlb.out).mono ?_
  rintro e w2 ⟨px, py, rfl, _, _, lx, ly, hb2⟩
  have hB := hb1.trans (hb2.mono hb1.size)
  have HT2 := Lib.hid (tabs w HT.out hB)
  obtain ⟨za, _, _, la, A1⟩ := ratMR w2 a Ha.out
  obtain ⟨f, qf, _, lf, A2⟩ := absR w2 HT2.out za la
  have hf0 : 0 ≤ f.q := by rw [qf]; unfold absQ; split <;> grind
  have hI := (In.start w2).alloc 58 #[.bool px.neg, .string px.num, .string px.den, .bool py.neg, .string py.num, .string py.den]
  clear hb1 hb2 HZ Hl Hlb qf
  go_wp2_with fail
  generalize World.alloc _ _ = W3 at hI ⊢
  refine (A1.out _).mono ?_
  rintro e W4 ⟨rfl, hb⟩
  replace hI := hI.call hb
  clear hb A1
  go_wp2_with fail
  refine (A2.out _ hI.bel).mono ?_
  rintro e wn ⟨rfl, hb⟩
  replace hI := hI.call hb
  clear hb
  replace hI := hI.alloc 27 #[.bool f.neg, .string f.num, .string f.den]
  have hK := hI.alloc 58 #[.bool px.neg, .string px.num, .string px.den, .bool py.neg, .string py.num, .string py.den]
  rw [World.size_alloc] at hK
  have fx := hI.facts
  simp only [factsOf, cellsOf, Nat.zero_add, Nat.reduceAdd] at fx
  go_wp2_with (first
    | (refine wpList_min2 rfl (.tmp 26) (.const (.int .i64 20)) _ rfl n 20 rfl rfl m hmin ?_)
    | (refine wpList_slice_to rfl 22 (.tmp 24) (.tmp 27) rfl A n c m rfl rfl Tryd.underlying22 Hto.out ?_))
  generalize World.alloc _ _ = W5 at hK ⊢
  obtain ⟨b7, h7⟩ : ∃ b, b = w2.heap.size := ⟨_, rfl⟩
  obtain ⟨b9, h9⟩ : ∃ b, b = wn.heap.size + 1 := ⟨_, rfl⟩
  obtain ⟨b8, h8⟩ : ∃ b, b = wn.heap.size := ⟨_, rfl⟩
  rw [← h9, ← h7, ← h8] at hK ⊢
  clear hI fx h7 h8 h9
  have hst := Lib.hid (show WkRel w2 b7 b8 b9 px py f m (.int .i64 0) W5 from ⟨0, px, py, Nat.zero_le _, rfl, lx, ly, by
    rw [show (((0 : Nat) : Int) : Rat) = 0 from rfl]; constructor <;> grind, by
    rw [show (((0 : Nat) : Int) : Rat) = 0 from rfl]; constructor <;> grind, hK⟩)
  clear hK
  go_loopw [30] (fun i wr => WkRel w2 b7 b8 b9 px py f m i wr) (fun i _ => m - (intOf i).toNat)
  case atStart => exact hst.out
  case round =>
    clear hst
    obtain ⟨k, x, y, hk, rfl, hxl, hyl, hx, hy, hI⟩ := hrel
    by_cases hkm : k < m
    · have h1 : (k : Int) < (m : Int) := by omega
      have h2 : 0 ≤ (k : Int) ∧ (k : Int) < (m : Int) := by omega
      obtain ⟨b, o, z, rfl, hbB, hz, hcell⟩ := Rd.one (k := .i64) Hrd.out (show k < n by omega)
      have hzr := Hi2.out z (List.mem_of_getElem? hz)
      have hcw : wr.cell? ⟨b, o + k, none⟩ = some (.int .i64 z) := (hI.old (Nat.lt_of_lt_of_le hbB hB.size)).trans ((hB.cell (p := ⟨b, o + k, none⟩) hbB).trans hcell)
      have hbn : b < wr.heap.size := Nat.lt_of_lt_of_le hbB (Nat.le_trans hB.size hI.bel.size)
      have hm1 := Int.emod_nonneg z (b := 9) (by omega)
      have hm2 := Int.emod_lt_of_pos z (b := 9) (by omega)
      have hm3 := Int.emod_nonneg (z.tdiv 9) (b := 9) (by omega)
      have hm4 := Int.emod_lt_of_pos (z.tdiv 9) (b := 9) (by omega)
      have B1 := Lib.hid (fun W => below_any z 9 W (by omega) (by omega))
      have B2 := Lib.hid (fun W => below_any (z.tdiv 9) 9 W (by omega) (by omega))
      obtain ⟨u, hu⟩ : ∃ u, u = z % 9 - 4 := ⟨_, rfl⟩
      obtain ⟨v, hv⟩ : ∃ v, v = z.tdiv 9 % 9 - 4 := ⟨_, rfl⟩
      have hq0 : (z.tdiv 9).natAbs = z.natAbs / 9 := Int.natAbs_tdiv z 9
      have hwd : IntKind.i64.wrap (z.tdiv 9) = z.tdiv 9 := by unfold InI at hzr; rw [IntKind.wrap_i64]; omega
      clear hq0
      have hwu : IntKind.i64.wrap (z % 9 - 4) = u := by rw [IntKind.wrap_i64]; omega
      have hwv : IntKind.i64.wrap (z.tdiv 9 % 9 - 4) = v := by rw [IntKind.wrap_i64]; omega
      have hwk : IntKind.i64.wrap ((k : Int) + 1) = (k : Int) + 1 := by rw [IntKind.wrap_i64]; omega
      have h40 : ((4 : Int) : Rat) ≠ 0 := by decide
      obtain ⟨p, qp, _, lp, M1⟩ := makeR w2 HT2.out u 4 h40 (by omega) (by decide)
      obtain ⟨q, qq, _, lq, M2⟩ := makeR w2 HT2.out v 4 h40 (by omega) (by decide)
      have hp := unit_mul hf0 (quarter qp (by omega) (by omega)).1 (quarter qp (by omega) (by omega)).2
      have hq := unit_mul hf0 (quarter qq (by omega) (by omega)).1 (quarter qq (by omega) (by omega)).2
      obtain ⟨s, qs, _, ls, P1⟩ := mulR w2 HT2.out f p lf lp
      obtain ⟨t, qt, _, lt, P2⟩ := mulR w2 HT2.out f q lf lq
      obtain ⟨x', qx, _, lx', S1⟩ := addR w2 HT2.out x s hxl ls
      obtain ⟨y', qy, _, ly', S2⟩ := addR w2 HT2.out y t hyl lt
      obtain ⟨e1, e2, e3, e4, q1, q2, q3, q4, _, ll, R1⟩ := reachR w2 HT2.out px py f lx ly (lf.more (show 1 ≤ 8 by decide)) ((k : Int) + 1) (by omega)
      have hfar : farV f.q ((k : Int) + 1) = (((k + 1 : Nat) : Int) : Rat) * f.q := by
        unfold farV
        rw [maxQ_of_nonneg hf0, show max ((k : Int) + 1) 0 = ((k + 1 : Nat) : Int) by omega, Rat.mul_comm]
      have hk1 : (((k + 1 : Nat) : Int) : Rat) = ((k : Int) : Rat) + 1 := by
        rw [show ((k + 1 : Nat) : Int) = (k : Int) + 1 by omega, Rat.intCast_add]; rfl
      rw [hfar] at q1 q2 q3 q4
      have hx' : px.q - (((k + 1 : Nat) : Int) : Rat) * f.q ≤ x'.q ∧ x'.q ≤ px.q + (((k + 1 : Nat) : Int) : Rat) * f.q := by
        rw [qx, qs, hk1]; constructor <;> grind
      have hy' : py.q - (((k + 1 : Nat) : Int) : Rat) * f.q ≤ y'.q ∧ y'.q ≤ py.q + (((k + 1 : Nat) : Int) : Rat) * f.q := by
        rw [qy, qt, hk1]; constructor <;> grind
      have lx2 : x'.le (1 + 18 * (k + 1)) := lx'.more (by omega)
      have ly2 : y'.le (1 + 18 * (k + 1)) := ly'.more (by omega)
      have IN := withinR w2 HT2.out e1 e2 e3 e4 x' y' (ll.1.more (by decide)) (ll.2.1.more (by decide)) (ll.2.2.1.more (by decide)) (ll.2.2.2.more (by decide)) (lx2.more (by omega)) (ly2.more (by omega))
      rw [show inB e1.q e2.q e3.q e4.q x'.q y'.q = true from by
        unfold inB
        rw [q1, q2, q3, q4, decide_eq_true hx'.1, decide_eq_true hx'.2, decide_eq_true hy'.1, decide_eq_true hy'.2]; rfl] at IN
      have HN := Lib.hid (show ∀ W, In w2 [(b9, 58, #[.bool x'.neg, .string x'.num, .string x'.den, .bool y'.neg, .string y'.num, .string y'.den]), (b8, 27, #[.bool f.neg, .string f.num, .string f.den]), (b7, 58, #[.bool px.neg, .string px.num, .string px.den, .bool py.neg, .string py.num, .string py.den])] W → WkRel w2 b7 b8 b9 px py f m (.int .i64 ((k : Int) + 1)) W from fun W hW => ⟨k + 1, x', y', hkm, by simp, lx2, ly2, hx', hy', hW⟩)
      clear hx hy hp hq qp qq qs qt qx qy q1 q2 q3 q4 hfar hk1 hx' hy' hu hv hcell hz ll hzr hm1 hm2 hm3 hm4 h40 lx' ly'
      go_wp2_with fail
      refine (B1.out _).mono ?_
      rintro e W7 ⟨rfl, rfl⟩
      go_wp2_with fail
      refine (M1.out _ hI.bel).mono ?_
      rintro e wn ⟨rfl, hb⟩
      replace hI := hI.call hb
      clear hb
      replace hI := hI.alloc 27 #[.bool p.neg, .string p.num, .string p.den]
      obtain ⟨gp, hgp⟩ : ∃ g, g = wn.heap.size := ⟨_, rfl⟩
      clear hcw
      go_wp2_with fail
      rw [← hgp] at hI ⊢
      generalize World.alloc _ _ = W8 at hI ⊢
      refine (B2.out _).mono ?_
      rintro e W7 ⟨rfl, rfl⟩
      clear hgp hwd
      go_wp2_with fail
      refine (M2.out _ hI.bel).mono ?_
      rintro e wn ⟨rfl, hb⟩
      replace hI := hI.call hb
      clear hb
      replace hI := hI.alloc 27 #[.bool q.neg, .string q.num, .string q.den]
      obtain ⟨gq, hgq⟩ : ∃ g, g = wn.heap.size := ⟨_, rfl⟩
      go_upto_region 11 with (fail)
      rw [← hgq] at hI ⊢
      generalize World.alloc _ _ = W9 at hI ⊢
      clear hgq
      go_cut [] (fun wx => In w2 [(b9, 58, #[.bool x'.neg, .string x'.num, .string x'.den, .bool y'.neg, .string y'.num, .string y'.den]), (b8, 27, #[.bool f.neg, .string f.num, .string f.den]), (b7, 58, #[.bool px.neg, .string px.num, .string px.den, .bool py.neg, .string py.num, .string py.den])] wx)
      case first =>
        refine wp_region_in_tail 13 hI (by kernel_rfl) (by kernel_rfl) ?_
        simp only [List.take_succ_cons, List.take_zero, List.drop_succ_cons, List.drop_zero]
        repeat (first
          | (refine wpSeq_off (by rfl) ?_; try simp only [Act.put, List.setIfInBounds_toArray, List.set_cons_zero, List.set_cons_succ])
          | (refine wpSeq_val (v := ?_) (by rfl) (fun W hS => ?_) ?_
             rotate_left
             · (have fx := hS.facts; simp only [factsOf, cellsOf, Nat.zero_add, Nat.reduceAdd] at fx; clear hS; go_simp; first | done | with_reducible rfl)
             try simp only [Act.put, List.setIfInBounds_toArray, List.set_cons_zero, List.set_cons_succ]))
        refine wpSeq_call (v := .agg #[.bool s.neg, .string s.num, .string s.den]) (by rfl) (fun W hS => ?_) (fun W hS => (P1.out W hS.bel)) ?_
        · (clear hS; go_simp; done)
        try simp only [Act.put, List.setIfInBounds_toArray, List.set_cons_zero, List.set_cons_succ]
        repeat (first
          | (refine wpSeq_off (by rfl) ?_; try simp only [Act.put, List.setIfInBounds_toArray, List.set_cons_zero, List.set_cons_succ])
          | (refine wpSeq_val (v := ?_) (by rfl) (fun W hS => ?_) ?_
             rotate_left
             · (have fx := hS.facts; simp only [factsOf, cellsOf, Nat.zero_add, Nat.reduceAdd] at fx; clear hS; go_simp; first | done | with_reducible rfl)
             try simp only [Act.put, List.setIfInBounds_toArray, List.set_cons_zero, List.set_cons_succ]))
        refine wpSeq_call (v := .agg #[.bool x'.neg, .string x'.num, .string x'.den]) (by rfl) (fun W hS => ?_) (fun W hS => (S1.out W hS.bel)) ?_
        · (clear hS; go_simp; done)
        try simp only [Act.put, List.setIfInBounds_toArray, List.set_cons_zero, List.set_cons_succ]
        repeat (first
          | (refine wpSeq_off (by rfl) ?_; try simp only [Act.put, List.setIfInBounds_toArray, List.set_cons_zero, List.set_cons_succ])
          | (refine wpSeq_val (v := ?_) (by rfl) (fun W hS => ?_) ?_
             rotate_left
             · (have fx := hS.facts; simp only [factsOf, cellsOf, Nat.zero_add, Nat.reduceAdd] at fx; clear hS; go_simp; first | done | with_reducible rfl)
             try simp only [Act.put, List.setIfInBounds_toArray, List.set_cons_zero, List.set_cons_succ]))
        refine wpSeq_call (v := .agg #[.bool t.neg, .string t.num, .string t.den]) (by rfl) (fun W hS => ?_) (fun W hS => (P2.out W hS.bel)) ?_
        · (clear hS; go_simp; done)
        try simp only [Act.put, List.setIfInBounds_toArray, List.set_cons_zero, List.set_cons_succ]
        repeat (first
          | (refine wpSeq_off (by rfl) ?_; try simp only [Act.put, List.setIfInBounds_toArray, List.set_cons_zero, List.set_cons_succ])
          | (refine wpSeq_val (v := ?_) (by rfl) (fun W hS => ?_) ?_
             rotate_left
             · (have fx := hS.facts; simp only [factsOf, cellsOf, Nat.zero_add, Nat.reduceAdd] at fx; clear hS; go_simp; first | done | with_reducible rfl)
             try simp only [Act.put, List.setIfInBounds_toArray, List.set_cons_zero, List.set_cons_succ]))
        refine wpSeq_call (v := .agg #[.bool y'.neg, .string y'.num, .string y'.den]) (by rfl) (fun W hS => ?_) (fun W hS => (S2.out W hS.bel)) ?_
        · (clear hS; go_simp; done)
        try simp only [Act.put, List.setIfInBounds_toArray, List.set_cons_zero, List.set_cons_succ]
        repeat (first
          | (refine wpSeq_off (by rfl) ?_; try simp only [Act.put, List.setIfInBounds_toArray, List.set_cons_zero, List.set_cons_succ])
          | (refine wpSeq_val (v := ?_) (by rfl) (fun W hS => ?_) ?_
             rotate_left
             · (have fx := hS.facts; simp only [factsOf, cellsOf, Nat.zero_add, Nat.reduceAdd] at fx; clear hS; go_simp; first | done | with_reducible rfl)
             try simp only [Act.put, List.setIfInBounds_toArray, List.set_cons_zero, List.set_cons_succ]))
        refine wpSeq_nil (fun W hS => ?_)
        have hS1 := (hS.drop (a := [_, _])).take (a := [_])
        have fx := hS1.facts
        simp only [factsOf, cellsOf, Nat.zero_add, Nat.reduceAdd] at fx
        have hz := fun i => hS1.free (k := 0) (i := i) rfl
        have HX := Lib.hid ((hS.all6 (a := [_, _]) (.bool x'.neg) (.string x'.num) (.string x'.den) (.bool y'.neg) (.string y'.num) (.string y'.den)).drop (a := [_, _]))
        clear hS1 hS hI
        go_wp2_with fail
        go_meet
        exact HX.out
      case rest =>
        clear hI
        go_upto_region 12 with (fail)
        refine wp_region_in hcut (by kernel_rfl) (by kernel_rfl) ?_
        repeat (first
          | (refine wpSeq_off (by rfl) ?_; try simp only [Act.put, List.setIfInBounds_toArray, List.set_cons_zero, List.set_cons_succ])
          | (refine wpSeq_val (v := ?_) (by rfl) (fun W hS => ?_) ?_
             rotate_left
             · (have fx := hS.facts; simp only [factsOf, cellsOf, Nat.zero_add, Nat.reduceAdd] at fx; clear hS; go_simp; first | done | with_reducible rfl)
             try simp only [Act.put, List.setIfInBounds_toArray, List.set_cons_zero, List.set_cons_succ]))
        refine wpSeq_call (v := .agg #[.bool e1.neg, .string e1.num, .string e1.den, .bool e2.neg, .string e2.num, .string e2.den, .bool e3.neg, .string e3.num, .string e3.den, .bool e4.neg, .string e4.num, .string e4.den]) (by rfl) (fun W hS => ?_) (fun W hS => (R1.out W hS.bel)) ?_
        · (clear hS; go_simp; done)
        try simp only [Act.put, List.setIfInBounds_toArray, List.set_cons_zero, List.set_cons_succ]
        repeat (first
          | (refine wpSeq_off (by rfl) ?_; try simp only [Act.put, List.setIfInBounds_toArray, List.set_cons_zero, List.set_cons_succ])
          | (refine wpSeq_val (v := ?_) (by rfl) (fun W hS => ?_) ?_
             rotate_left
             · (have fx := hS.facts; simp only [factsOf, cellsOf, Nat.zero_add, Nat.reduceAdd] at fx; clear hS; go_simp; first | done | with_reducible rfl)
             try simp only [Act.put, List.setIfInBounds_toArray, List.set_cons_zero, List.set_cons_succ]))
        refine wpSeq_call (v := .bool true) (by rfl) (fun W hS => ?_) (fun W hS => (IN.out W hS.bel)) ?_
        · (clear hS; go_simp; done)
        try simp only [Act.put, List.setIfInBounds_toArray, List.set_cons_zero, List.set_cons_succ]
        repeat (first
          | (refine wpSeq_off (by rfl) ?_; try simp only [Act.put, List.setIfInBounds_toArray, List.set_cons_zero, List.set_cons_succ])
          | (refine wpSeq_val (v := ?_) (by rfl) (fun W hS => ?_) ?_
             rotate_left
             · (have fx := hS.facts; simp only [factsOf, cellsOf, Nat.zero_add, Nat.reduceAdd] at fx; clear hS; go_simp; first | done | with_reducible rfl)
             try simp only [Act.put, List.setIfInBounds_toArray, List.set_cons_zero, List.set_cons_succ]))
        refine wpSeq_nil (fun W hS => ?_)
        have HX := Lib.hid (HN.out _ hS)
        clear hS hcut
        go_wp2_with fail
        go_roundw
        case rel => exact HX.out
        case measure => simp [intOf]; omega
    · obtain rfl : k = m := by omega
      have h1 : ¬ (k : Int) < (k : Int) := by omega
      have hfin := hB.trans (hI.bel.mono hB.size)
      clear hI hx hy hB
      go_wp2
      go_ret
      exact ⟨rfl, hfin⟩
end Go.Proofs.YthmgcbpmfipfiaaDoor.zoneWalks
