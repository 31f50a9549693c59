/- (*ctl.Ctl).Late. Conditions: those typed. -/
import Derived.Test.YtnnbnecpcppkdaaDoorInvA
import Derived.Test.YtnnbnecpcppkdaaDoorCtlS
namespace Go.Proofs.YtnnbnecpcppkdaaDoor
open Go.RowKit Go.Gy
set_option linter.unusedVariables false
set_option linter.unusedSimpArgs false
def lateV (gl ql : List Q3) : Nat → Rat
  | 0 => 0
  | k + 1 => match gl[k]?, ql[k]? with
    | some g, some q => maxQ (lateV gl ql k) (absQ (g.q - q.q))
    | _, _ => lateV gl ql k
theorem lateV_succ {gl ql : List Q3} {k : Nat} {g q : Q3} (hg : gl[k]? = some g) (hq : ql[k]? = some q) : lateV gl ql (k + 1) = maxQ (lateV gl ql k) (absQ (g.q - q.q)) := by
  show (match gl[k]?, ql[k]? with | some g, some q => maxQ (lateV gl ql k) (absQ (g.q - q.q)) | _, _ => lateV gl ql k) = _
  rw [hg, hq]
theorem lateV_zero {gl ql : List Q3} (h : ∀ (k : Nat) (g q : Q3), gl[k]? = some g → ql[k]? = some q → g.q = q.q) : ∀ k, lateV gl ql k = 0
  | 0 => rfl
  | k + 1 => by
    have ih := lateV_zero h k
    show (match gl[k]?, ql[k]? with | some g, some q => maxQ (lateV gl ql k) (absQ (g.q - q.q)) | _, _ => lateV gl ql k) = 0
    split
    · next g q hg hq =>
      rw [ih, h k g q hg hq]
      unfold maxQ absQ
      split <;> split <;> grind
    · exact ih
def LtRel (w : World) (g7 lo : Nat) (vg : Value) (ls : List (Nat × TypeId × Array Value)) (gl ql : List Q3) (M n : Nat) (i : Value) (wr : World) : Prop := ∃ (k : Nat) (o : Q3), k ≤ n ∧ i = .int .i64 k ∧ o.can ∧ o.le M ∧ o.q = lateV gl ql k ∧ InK w ((g7, 25, #[.bool o.neg, .string o.num, .string o.den]) :: ls) (OwnK lo 25 3 vg gl.length (gl.flatMap encQ)) wr
/-- what region 4's operations yield -/
def LtF (g7 p n C : Nat) (A : Option Addr) (tick tz : Int) (gl : List Q3) (i : Nat) (u : Value) (W : World) : Prop :=
  match i with
  | 0 => u = .pointer (some ⟨p, 0, none⟩)
  | 1 => u = .pointer (some ⟨p, 0, none⟩)
  | 2 => u = .pointer (some ⟨p, 12, none⟩)
  | 3 => u = .slice A n C
  | 4 => u = .int .i64 tick
  | 5 => u = .int .i64 tz
  | 6 => ∃ (Ag : Option Addr) (c lo : Nat), u = .slice Ag gl.length c ∧ g7 < lo ∧ OwnK lo 25 3 u gl.length (gl.flatMap encQ) W
  | 7 => u = .int .i64 gl.length
  | 8 => u = .int .i64 0
  | _ => True
theorem LtF.below {g7 p n C : Nat} {A : Option Addr} {tick tz : Int} {gl : List Q3} {W W' : World} (hb : Below W.heap.size W W') : ∀ j u, LtF g7 p n C A tick tz gl j u W → LtF g7 p n C A tick tz gl j u W' := by
  intro j u hF
  rcases j with _ | _ | _ | _ | _ | _ | _ | _ | _ | j
  all_goals first | exact hF | skip
  obtain ⟨Ag, c, lo, h1, h2, h3⟩ := hF
  exact ⟨Ag, c, lo, h1, h2, ownL _ _ h3 hb⟩
set_option maxRecDepth 100000 in
set_option maxHeartbeats 8000000 in
theorem late_ctl (w : World) (hT : TabW w) (p : Nat) (a : Ar) (vt : Value) (K : List Ky) (tick : Int) (vq vv : Value) (ql : List Q3) (pw : Bool) (hd : Int) {N : Nat} (hC : CtlAt w p a vt) (hL3 : a.L.length ≤ 3) (hv : SlK w w.heap.size vt K) (hl : KyLe K N) (hK : KyOk K) (hKn : KyN K a.L.length) (hn : K.length ≤ 60) (hne : K ≠ []) (ht : InI tick) (hq : SlQ w w.heap.size vq ql) (lq : ∀ x ∈ ql, x.le N) (hqn : ql.length = a.L.length) (hvv : ∃ A n c, vv = .slice A n c) (hN : 1 ≤ N ∧ N ≤ 68719476) (Z : Q3) (cZ : Z.can) (qZ : Z.q = lateV ((atQ K (bndZ tick)).map toQ3) ql a.L.length) :
    Calls Tryd.prog 60 #[.pointer (some ⟨p, 0, none⟩), .int .i64 tick, .agg #[vq, vv, .bool pw, .int .i64 hd]] w fun e w' => e = .returned (.agg #[.bool Z.neg, .string Z.num, .string Z.den]) ∧ Below w.heap.size w w' := by
  have HT := Lib.hid hT
  have hti : -9223372036854775808 ≤ tick ∧ tick ≤ 9223372036854775807 := ht
  have hbz : -1 ≤ bndZ tick ∧ bndZ tick ≤ 2000 := by unfold bndZ; omega
  have HBD := Lib.hid (fun W (hW : Below w.heap.size w W) => (bounded_any W tick ht).mono fun e w' (h : e = .returned (.int .i64 (bndZ tick)) ∧ w' = W) => (⟨h.1, by rw [h.2]; exact Below.refl _ _⟩ : e = .returned (.int .i64 (bndZ tick)) ∧ Below W.heap.size W w'))
  have hglen : ((atQ K (bndZ tick)).map toQ3).length = a.L.length := by rw [List.length_map]; exact atQ_len _ hne hKn
  have HGQ := Lib.hid (show ∀ x ∈ (atQ K (bndZ tick)).map toQ3, x.le (3 * N + 40) from fun x hx => by
    obtain ⟨y, hy, rfl⟩ := List.mem_map.1 hx
    exact toQ3_le (atQ_qz hN.1 ⟨by omega, by omega⟩ hK hl y hy))
  obtain ⟨tz, htz⟩ : ∃ tz, tz = bndZ tick := ⟨_, rfl⟩
  rw [← htz] at HBD hbz qZ hglen HGQ
  have HAT := Lib.hid (fun W (hW : Below w.heap.size w W) => at_any' W (tabs w hT hW) vt K tz (hv.up hW) hl hK (by omega) (show InI tz from ⟨by omega, by omega⟩) (by omega))
  obtain ⟨gl, hgl⟩ : ∃ gl, gl = (atQ K tz).map toQ3 := ⟨_, rfl⟩
  rw [← hgl] at qZ hglen HGQ
  have HGL := Lib.hid hgl
  have HLQ := Lib.hid lq
  have HQ := Lib.hid hq
  obtain ⟨Aq, nq, Cq, rfl, hnq, _⟩ := id hq
  subst hnq
  obtain ⟨Av, nv, Cv, rfl⟩ := hvv
  obtain ⟨At, nt, Ct, rfl, hnt, _⟩ := id hv
  subst hnt
  obtain ⟨⟨A, N9, C, hva, hNL, _⟩, _⟩ := id hC.2
  have hlen : N9 = a.L.length := by rw [← hNL, Ar.ks_len]
  subst hlen
  have c11 := hC.cell (i := 11) rfl
  have c12 := hC.cell (i := 12) rfl
  rw [hva] at c11
  have hpl : p < w.heap.size := hC.lt
  have EC := Lib.hid (fun W (hW : Below w.heap.size w W) => (⟨(hW.cell (p := ⟨p, 11, none⟩) hpl).trans c11, (hW.cell (p := ⟨p, 12, none⟩) hpl).trans c12, Nat.lt_of_lt_of_le hpl hW.size⟩ : And _ (And _ _)))
  obtain ⟨n, hnd⟩ : ∃ n, n = a.L.length := ⟨_, rfl⟩
  rw [← hnd] at hqn hL3 EC hglen qZ
  have HQN := Lib.hid hqn
  have HGN := Lib.hid hglen
  have hk0 : 0 < K.length := List.length_pos_iff.mpr hne
  have hn1 : ((ql.length : Int) != (n : Int)) = false := by simp [hqn]
  have hn2 : ((K.length : Int) == 0) = false := by simp; omega
  obtain ⟨z0, q0, cz0, lz0, O0⟩ := ofR w hT 0
  have HZ := Lib.hid (And.intro cZ qZ)
  have HZ0 := Lib.hid (show z0.can ∧ z0.le (4 * N + 41) ∧ z0.q = lateV gl ql 0 from ⟨cz0, lz0.more (by omega), by rw [q0]; rfl⟩)
  have hI := ((In.start w).alloc 61 #[.slice Aq ql.length Cq, .slice Av nv Cv, .bool pw, .int .i64 hd]).alloc 25 #[.bool false, .string { data := #[] }, .string { data := #[] }]
  rw [World.size_alloc] at hI
  clear hC hv hl hK hKn lq hq hT hNL hva c11 c12 hnd hqn ht hti htz hpl hgl hglen hne qZ cZ q0 cz0 lz0
  go_enter Tryd.func60, Tryd.ntmps60
  go_upto_region 1 with (fail)
  generalize World.alloc _ _ = W1 at hI ⊢
  go_wp2_with fail
  refine (O0.out _ hI.bel).mono ?_
  rintro e wn ⟨rfl, hb⟩
  replace hI := hI.call hb
  clear hb
  clear O0
  replace hI := hI.alloc 25 #[.bool z0.neg, .string z0.num, .string z0.den]
  obtain ⟨g7, hg7⟩ : ∃ g, g = wn.heap.size := ⟨_, rfl⟩
  go_upto_region 2 with (fail)
  rw [← hg7] at hI ⊢
  clear hg7
  generalize World.alloc _ _ = W2 at hI ⊢
  refine wp_region_in hI (by kernel_rfl) (by kernel_rfl) ?_
  repeat (first
    | (refine wpSeq_off (by rfl) ?_; try simp only [Act.put, List.setIfInBounds_toArray, List.set_cons_zero, List.set_cons_succ])
    | (refine wpSeq_val (v := ?_) (by rfl) (fun W hS => ?_) ?_
       rotate_left
       · (have fx := hS.facts; simp only [factsOf, cellsOf, Nat.zero_add, Nat.reduceAdd] at fx; have fy0 := EC.out W hS.bel; clear hS; go_simp; first | done | with_reducible rfl)
       try simp only [Act.put, List.setIfInBounds_toArray, List.set_cons_zero, List.set_cons_succ]))
  refine wpSeq_nil (fun W hS => ?_)
  clear hI
  have hI := hS
  clear hS
  obtain ⟨e11, e12, epl⟩ := EC.out W hI.bel
  have fx := hI.facts
  simp only [factsOf, cellsOf, Nat.zero_add, Nat.reduceAdd] at fx
  go_upto_region 4 with (fail)
  clear fx e11 e12 epl
  refine wp_region_allF 9 (In w [(g7, 25, #[.bool z0.neg, .string z0.num, .string z0.den]), (w.heap.size + 1, 25, #[.bool false, .string { data := #[] }, .string { data := #[] }]), (w.heap.size, 61, #[.slice Aq ql.length Cq, .slice Av nv Cv, .bool pw, .int .i64 hd])]) (LtF g7 p K.length Ct At tick tz gl) (by kernel_rfl) (by kernel_rfl) hI.drew ?_ ?_
  · as_aux_lemma =>
    intro i op' hi ho us W hI hdep
    obtain ⟨e11, e12, epl⟩ := EC.out W hI.bel
    rcases i with _ | _ | _ | _ | _ | _ | _ | _ | _ | i
    all_goals first | omega | skip
    all_goals (simp only [List.getElem?_cons_succ, List.getElem?_cons_zero, Option.some.injEq] at ho; subst ho)
    · refine StepJ.val (v := .pointer (some ⟨p, 0, none⟩)) rfl ?_ ⟨hI, rfl, fun j u h => h⟩
      clear hI hdep
      unfold lexA
      simp only [putAll, preI, Nat.reduceLT, Nat.reduceAdd, decide_false, Bool.false_eq_true, if_false]
      go_simp
    · have a0 : us 0 = .pointer (some ⟨p, 0, none⟩) := hdep ⟨0, .data⟩ (by simp) rfl
      refine StepJ.val (v := .pointer (some ⟨p, 0, none⟩)) rfl ?_ ⟨hI, rfl, fun j u h => h⟩
      clear hI hdep
      unfold lexA
      simp only [putAll, preI, Nat.reduceLT, Nat.reduceAdd, decide_true, decide_false, Bool.false_eq_true, if_true, if_false, Act.put, List.setIfInBounds_toArray, List.set_cons_zero, List.set_cons_succ]
      go_simp
    · have a1 : us 1 = .pointer (some ⟨p, 0, none⟩) := hdep ⟨1, .data⟩ (by simp) rfl
      refine StepJ.val (v := .pointer (some ⟨p, 12, none⟩)) rfl ?_ ⟨hI, rfl, fun j u h => h⟩
      clear hI hdep
      unfold lexA
      simp only [putAll, preI, Nat.reduceLT, Nat.reduceAdd, decide_true, decide_false, Bool.false_eq_true, if_true, if_false, Act.put, List.setIfInBounds_toArray, List.set_cons_zero, List.set_cons_succ]
      go_simp
    · have a2 : us 2 = .pointer (some ⟨p, 12, none⟩) := hdep ⟨2, .data⟩ (by simp) rfl
      refine StepJ.val (v := .slice At K.length Ct) rfl ?_ ⟨hI, rfl, fun j u h => h⟩
      clear hI hdep
      unfold lexA
      simp only [putAll, preI, Nat.reduceLT, Nat.reduceAdd, decide_true, decide_false, Bool.false_eq_true, if_true, if_false, Act.put, List.setIfInBounds_toArray, List.set_cons_zero, List.set_cons_succ]
      go_simp
    · refine StepJ.val (v := .int .i64 tick) rfl ?_ ⟨hI, rfl, fun j u h => h⟩
      clear hI hdep
      unfold lexA
      simp only [putAll, preI, Nat.reduceLT, Nat.reduceAdd, decide_true, decide_false, Bool.false_eq_true, if_true, if_false, Act.put, List.setIfInBounds_toArray, List.set_cons_zero, List.set_cons_succ]
      go_simp
    · have a4 : us 4 = .int .i64 tick := hdep ⟨4, .data⟩ (by simp) rfl
      refine StepJ.call rfl ?_ ((HBD.out W hI.bel).mono fun e W' ⟨h1, h2⟩ => ⟨_, h1, hI.call h2, rfl, LtF.below h2⟩)
      clear hI hdep
      unfold lexA
      simp only [putAll, preI, Nat.reduceLT, Nat.reduceAdd, decide_true, decide_false, Bool.false_eq_true, if_true, if_false, Act.put, List.setIfInBounds_toArray, List.set_cons_zero, List.set_cons_succ]
      go_simp
    · have a3 : us 3 = .slice At K.length Ct := hdep ⟨3, .data⟩ (by simp) rfl
      have a5 : us 5 = .int .i64 tz := hdep ⟨5, .data⟩ (by simp) rfl
      refine StepJ.call rfl ?_ ((HAT.out W hI.bel).mono fun e W' ⟨v', h1, h2, h3⟩ => ⟨v', h1, hI.call h3, ?_, LtF.below h3⟩)
      · clear hI hdep
        unfold lexA
        simp only [putAll, preI, Nat.reduceLT, Nat.reduceAdd, decide_true, decide_false, Bool.false_eq_true, if_true, if_false, Act.put, List.setIfInBounds_toArray, List.set_cons_zero, List.set_cons_succ]
        go_simp
      · have hsl : W'.ownsRow W.heap.size 25 3 v' gl.length (gl.flatMap encQ) := by
          have h4 : gl.length = (atQ K tz).length := by rw [HGL.out, List.length_map]
          rw [h4, HGL.out]
          exact h2
        obtain ⟨Ag, cg, rfl, _⟩ := own_rd hsl
        exact ⟨Ag, cg, W.heap.size, rfl, hI.lt (k := 0) rfl, h3.size, hsl⟩
    · obtain ⟨Ag, c, lo, a6, _⟩ : ∃ (Ag : Option Addr) (c lo : Nat), us 6 = .slice Ag gl.length c ∧ g7 < lo ∧ OwnK lo 25 3 (us 6) gl.length (gl.flatMap encQ) W := hdep ⟨6, .data⟩ (by simp) rfl
      refine StepJ.val (v := .int .i64 gl.length) rfl ?_ ⟨hI, rfl, fun j u h => h⟩
      clear hI hdep
      unfold lexA
      simp only [putAll, preI, Nat.reduceLT, Nat.reduceAdd, decide_true, decide_false, Bool.false_eq_true, if_true, if_false, Act.put, List.setIfInBounds_toArray, List.set_cons_zero, List.set_cons_succ]
      go_simp
    · refine StepJ.val (v := .int .i64 0) rfl ?_ ⟨hI, rfl, fun j u h => h⟩
      clear hI hdep
      unfold lexA
      simp only [putAll, preI, Nat.reduceLT, Nat.reduceAdd, decide_true, decide_false, Bool.false_eq_true, if_true, if_false, Act.put, List.setIfInBounds_toArray, List.set_cons_zero, List.set_cons_succ]
      go_simp
  · intro us W hI hF
    obtain ⟨Ag, cg, lo, h6, hlo, hsl⟩ : ∃ (Ag : Option Addr) (c lo : Nat), us 6 = .slice Ag gl.length c ∧ g7 < lo ∧ OwnK lo 25 3 (us 6) gl.length (gl.flatMap encQ) W := hF 6 (by decide)
    have h7 : us 7 = .int .i64 gl.length := hF 7 (by decide)
    have h8 : us 8 = .int .i64 0 := hF 8 (by decide)
    rw [h6] at hsl
    unfold lexA
    simp only [putAll, preI, Nat.reduceLT, Nat.reduceAdd, decide_true, decide_false, Bool.false_eq_true, if_true, if_false, Act.put, List.setIfInBounds_toArray, List.set_cons_zero, List.set_cons_succ, List.drop_succ_cons, List.drop_zero]
    rw [h6, h7, h8]
    have HLO := Lib.hid hlo
    have hst := Lib.hid (show LtRel w g7 lo (.slice Ag gl.length cg) [(w.heap.size + 1, 25, #[.bool false, .string { data := #[] }, .string { data := #[] }]), (w.heap.size, 61, #[.slice Aq ql.length Cq, .slice Av nv Cv, .bool pw, .int .i64 hd])] gl ql (4 * N + 41) gl.length (.int .i64 0) W from ⟨0, z0, Nat.zero_le _, rfl, HZ0.out.1, HZ0.out.2.1, HZ0.out.2.2, ⟨hI, hsl⟩⟩)
    clear hF h6 h7 h8 hI hsl hlo HAT HBD
    go_wp2_with fail
    go_loopw [38] (fun i wr => LtRel w g7 lo (.slice Ag gl.length cg) [(w.heap.size + 1, 25, #[.bool false, .string { data := #[] }, .string { data := #[] }]), (w.heap.size, 61, #[.slice Aq ql.length Cq, .slice Av nv Cv, .bool pw, .int .i64 hd])] gl ql (4 * N + 41) gl.length i wr) (fun i _ => gl.length - (intOf i).toNat)
    case atStart => exact hst.out
    case round =>
      clear hst
      obtain ⟨k, o, hk, rfl, co, lo', qo, hI⟩ := hrel
      by_cases hin : k < gl.length
      · have hi1 : (k : Int) < (gl.length : Int) := by omega
        have hi2 : 0 ≤ (k : Int) ∧ (k : Int) < (gl.length : Int) := by omega
        have hi3 : 0 ≤ (k : Int) ∧ (k : Int) < (ql.length : Int) := by have h1 := HQN.out; have h2 := HGN.out; omega
        obtain ⟨g, hg⟩ : ∃ g, gl[k]? = some g := ⟨_, List.getElem?_eq_getElem hin⟩
        obtain ⟨q, hq⟩ : ∃ q, ql[k]? = some q := ⟨_, List.getElem?_eq_getElem (by have h1 := HQN.out; have h2 := HGN.out; omega)⟩
        obtain ⟨d, qd, _, ld, SB⟩ := subR w HT.out g q (HGQ.out g (List.mem_of_getElem? hg)) (HLQ.out q (List.mem_of_getElem? hq)) (by omega)
        obtain ⟨u, qu, _, lu, AB⟩ := absR w HT.out d ld (by omega)
        obtain ⟨m, qm, cm, lm, MX⟩ := maxR w HT.out o u lo' lu (by omega)
        have HM := Lib.hid (show m.can ∧ m.le (4 * N + 41) ∧ m.q = lateV gl ql (k + 1) from ⟨cm, lm.more (by omega), by rw [lateV_succ hg hq, qm, qo, qu, qd]⟩)
        obtain ⟨_, _, _, e8, _, _, _, hrq⟩ := HQ.out
        cases e8
        obtain ⟨bq, oq, rfl, hbq, d0, d1, d2⟩ := Rd.quot hrq hq
        obtain ⟨_, _, e8, _, _, hrg⟩ := own_rd hI.k.2
        cases e8
        obtain ⟨bg, og, rfl, hbg, y0, y1, y2⟩ := Rd.quot hrg hg
        have E := Lib.hid (fun W (hW : Below w.heap.size w W) => (⟨(hW.cell (p := ⟨bq, oq + k * 3, none⟩) hbq).trans d0, (hW.cell (p := ⟨bq, oq + k * 3 + 1, none⟩) hbq).trans d1, (hW.cell (p := ⟨bq, oq + k * 3 + 2, none⟩) hbq).trans d2⟩ : And _ (And _ _)))
        have hwk : IntKind.i64.wrap ((k : Int) + 1) = (k : Int) + 1 := by
          have h1 := HGN.out
          rw [IntKind.wrap_i64]; omega
        replace hI := hI.allocK ownL 25 #[.bool g.neg, .string g.num, .string g.den]
        obtain ⟨g9, hg9⟩ : ∃ g, g = wr.heap.size := ⟨_, rfl⟩
        clear hg hq qd ld qu lu qm cm lm qo co lo' hrq d0 d1 d2 hbq hrg
        go_upto_region 7 with (fail)
        clear y0 y1 y2 hbg
        rw [← hg9] at hI ⊢
        clear hg9
        generalize World.alloc _ _ = W5 at hI ⊢
        refine wp_region_inK_tail 10 ownL hI (by kernel_rfl) (by kernel_rfl) ?_
        simp only [List.take_succ_cons, List.take_zero, List.drop_succ_cons, List.drop_zero]
        repeat (first
          | (refine wpSeq_off (by rfl) ?_; try simp only [Act.put, List.setIfInBounds_toArray, List.set_cons_zero, List.set_cons_succ])
          | (refine wpSeq_val (v := ?_) (by rfl) (fun W hS => ?_) ?_
             rotate_left
             · (have fx := hS.facts; simp only [factsOf, cellsOf, Nat.zero_add, Nat.reduceAdd] at fx; have fy0 := E.out W hS.bel; clear hS; go_simp; first | done | with_reducible rfl)
             try simp only [Act.put, List.setIfInBounds_toArray, List.set_cons_zero, List.set_cons_succ]))
        refine wpSeq_call (v := .agg #[.bool d.neg, .string d.num, .string d.den]) (by rfl) (fun W hS => ?_) (fun W hS => (SB.out W hS.bel)) ?_
        · (clear hS; go_simp; done)
        try simp only [Act.put, List.setIfInBounds_toArray, List.set_cons_zero, List.set_cons_succ]
        repeat (first
          | (refine wpSeq_off (by rfl) ?_; try simp only [Act.put, List.setIfInBounds_toArray, List.set_cons_zero, List.set_cons_succ])
          | (refine wpSeq_val (v := ?_) (by rfl) (fun W hS => ?_) ?_
             rotate_left
             · (have fx := hS.facts; simp only [factsOf, cellsOf, Nat.zero_add, Nat.reduceAdd] at fx; have fy0 := E.out W hS.bel; clear hS; go_simp; first | done | with_reducible rfl)
             try simp only [Act.put, List.setIfInBounds_toArray, List.set_cons_zero, List.set_cons_succ]))
        refine wpSeq_call (v := .agg #[.bool u.neg, .string u.num, .string u.den]) (by rfl) (fun W hS => ?_) (fun W hS => (AB.out W hS.bel)) ?_
        · (clear hS; go_simp; done)
        try simp only [Act.put, List.setIfInBounds_toArray, List.set_cons_zero, List.set_cons_succ]
        repeat (first
          | (refine wpSeq_off (by rfl) ?_; try simp only [Act.put, List.setIfInBounds_toArray, List.set_cons_zero, List.set_cons_succ])
          | (refine wpSeq_val (v := ?_) (by rfl) (fun W hS => ?_) ?_
             rotate_left
             · (have fx := hS.facts; simp only [factsOf, cellsOf, Nat.zero_add, Nat.reduceAdd] at fx; have fy0 := E.out W hS.bel; clear hS; go_simp; first | done | with_reducible rfl)
             try simp only [Act.put, List.setIfInBounds_toArray, List.set_cons_zero, List.set_cons_succ]))
        refine wpSeq_call (v := .agg #[.bool m.neg, .string m.num, .string m.den]) (by rfl) (fun W hS => ?_) (fun W hS => (MX.out W hS.bel)) ?_
        · (clear hS; go_simp; done)
        try simp only [Act.put, List.setIfInBounds_toArray, List.set_cons_zero, List.set_cons_succ]
        repeat (first
          | (refine wpSeq_off (by rfl) ?_; try simp only [Act.put, List.setIfInBounds_toArray, List.set_cons_zero, List.set_cons_succ])
          | (refine wpSeq_val (v := ?_) (by rfl) (fun W hS => ?_) ?_
             rotate_left
             · (have fx := hS.facts; simp only [factsOf, cellsOf, Nat.zero_add, Nat.reduceAdd] at fx; have fy0 := E.out W hS.bel; clear hS; go_simp; first | done | with_reducible rfl)
             try simp only [Act.put, List.setIfInBounds_toArray, List.set_cons_zero, List.set_cons_succ]))
        refine wpSeq_nil (fun W hS => ?_)
        have hT := hS.toIn.take (a := [_, _])
        have fx := hT.facts
        simp only [factsOf, cellsOf, Nat.zero_add, Nat.reduceAdd] at fx
        have hz := fun i => hT.free (k := 1) (i := i) rfl
        have HX := Lib.hid ((hS.all3K (a := [_]) HLO.out (.bool m.neg) (.string m.num) (.string m.den)).tailK)
        clear hT hS hI SB AB MX E
        go_wp2_with fail
        go_roundw
        case rel => exact ⟨k + 1, m, hin, by simp, HM.out.1, HM.out.2.1, HM.out.2.2, HX.out⟩
        case measure => simp [intOf]; omega
      · obtain rfl : k = gl.length := by omega
        have hi1 : ¬ (gl.length : Int) < (gl.length : Int) := by omega
        obtain rfl : o = Z := co.eq HZ.out.1 (by rw [qo, HZ.out.2, HGN.out])
        clear qo co lo' hk hin
        have hJ := hI.toIn
        have hS := hJ.tail
        have fx := hJ.facts
        simp only [factsOf, cellsOf, Nat.zero_add, Nat.reduceAdd] at fx
        clear hI hJ
        have hS0 := hS.take (a := [_])
        have HK := Lib.hid ((hS.all3 (a := []) (.bool o.neg) (.string o.num) (.string o.den)))
        have hfx := hS0.facts
        simp only [factsOf, cellsOf, Nat.zero_add, Nat.reduceAdd] at hfx
        have hfz := fun i => hS0.free (k := 0) (i := i) rfl
        clear hS0 hS
        go_wp2_with fail
        clear hfx hfz
        have hK := HK.out
        clear HK
        generalize World.setCell _ _ _ = W9 at hK ⊢
        refine bodyPost_ret (results_cell_row Tryd.results60 _ _ (w.heap.size + 1 ) 25 _ (0, 0) _ rfl (hK.blkAt (k := 0) rfl) Tryd.underlying25 rfl (by kernel_rfl)) rfl ?_
        exact ⟨rfl, hK.bel⟩
end Go.Proofs.YtnnbnecpcppkdaaDoor
